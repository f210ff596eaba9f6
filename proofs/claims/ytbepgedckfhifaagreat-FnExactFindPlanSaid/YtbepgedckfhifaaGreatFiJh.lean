/-
  MakePlan of the program.
-/
import Derived.Test.YtbepgedckfhifaaGreatFiJq
import Derived.Test.YtbepgedckfhifaaGreatFiDg
namespace Go.Proofs.YtbepgedckfhifaaGreat
set_option linter.unusedVariables false
set_option linter.unusedSimpArgs false
set_option maxRecDepth 100000
set_option maxHeartbeats 4000000
attribute [local irreducible] Fn
theorem kill_os {Q : Nm → Bool} {N : Nm} (h : Q N = false) : AV.kill Q (.os N) = .os N := by unfold AV.kill; rw [h]; rfl
theorem stoM {s : St} {size : Nat} {a x : AV} {K : St → Prop} {N : Nm} {st k j : Nat} {e : TypeId} {c c' : Ct} (ha : a = .oe N st k j) (hb : s.blk N = some (.row e c)) (h1 : (x.flat && Nat.beq x.cells.len size && Nat.ble (j + size) st && Nat.beq c.st st && mvOk (mvOf s N j x.cells)) = true) (h2 : ownCells c k j size = false) (h3 : c.set k j x.cells = some c') (hp : k < c.len) (hK : Nx (K ((s.setN N (.row e c')).mvs N k (mvOf s N j x.cells)))) :
    (match stoA s size a x with | .ok p s' => p ∧ Nx (K s') | .bad => False) := by
  subst ha
  have : stoA s size (.oe N st k j) x = .ok (k < c.len) ((s.setN N (.row e c')).mvs N k (mvOf s N j x.cells)) := by
    simp only [stoA, hb, h1, h2, h3, cond_true, cond_false]
  rw [this]
  exact ⟨hp, hK⟩
theorem alias_ne {g : Gr} (hv : ValidG g) {E : EdgePlanS_T} {a : Int} {i : Nat} (hi : i < (insP E (eTo g a) (eTo g a).length).length) {q : Nat} (hq : q < (eFrom g a).length) : ((insP E (eTo g a) (eTo g a).length).getD i (0, 0)).1 ≠ ((eFrom g a).getD q 0).toNat := by
  rw [insP_len] at hi
  obtain ⟨_, _, p, hp, e1⟩ := insP_at hi
  intro e2
  rw [e1] at e2
  have h1 := to_at hp
  have h2 := from_at hq
  have h3 := eTo_okT hp
  rw [e2] at h1
  obtain ⟨_, _, _, _, h4, _⟩ := hv.edge ((eFrom g a).getD q 0).toNat (by omega)
  exact h4 (h2.trans h1.symm)
theorem set_noneE {F : EdgePlanS_T} {e : Nat} (h : vE F e = []) : F.set e ([], ()) = F := by
  apply List.ext_getElem (by simp)
  intro i h1 h2
  rw [List.getElem_set]
  split
  · rename_i h3
    subst h3
    have : vE F e = (F[e]).1 := by unfold vE; rw [List.getD_eq_getElem?_getD, List.getElem?_eq_getElem h2]; rfl
    rw [this] at h
    generalize F[e] = x at h
    obtain ⟨x, u⟩ := x
    simp only at h
    rw [h]
  · rfl
theorem idxs_inc {φ : Edg → Bool} {es : List Edg} : ∀ {n : Nat}, (idxs φ es n).Pairwise (fun a b => a < b) := by
  intro n
  induction n with
  | zero => exact List.Pairwise.nil
  | succ n ih =>
    unfold idxs
    split
    · rw [List.pairwise_append]
      refine ⟨ih, by simp, fun a ha b hb => ?_⟩
      rw [List.mem_singleton] at hb
      obtain ⟨i, hi, e, _⟩ := idxs_mem.1 ha
      omega
    · exact ih
theorem from_inj {g : Gr} {a : Int} {p q : Nat} (hp : p < q) (hq : q < (eFrom g a).length) : ((eFrom g a).getD p 0).toNat ≠ ((eFrom g a).getD q 0).toNat := by
  have h1 : (eFrom g a).Pairwise (fun a b => a < b) := idxs_inc
  have h2 := List.pairwise_iff_getElem.1 h1 p q (by omega) hq hp
  have h3 := eFrom_okT (g := g) (a := a) (k := p) (by omega)
  have h4 := eFrom_okT (g := g) (a := a) hq
  have e1 : (eFrom g a).getD p 0 = (eFrom g a)[p] := by rw [List.getD_eq_getElem?_getD, List.getElem?_eq_getElem (by omega)]; rfl
  have e2 : (eFrom g a).getD q 0 = (eFrom g a)[q] := by rw [List.getD_eq_getElem?_getD, List.getElem?_eq_getElem hq]; rfl
  omega
theorem topo_inj {g : Gr} (h : acyB g = true) {p q : Nat} (hp : p < q) (hq : q < (topoL g).length) : (topoL g).getD p 0 ≠ (topoL g).getD q 0 := by
  rw [topoL_yes h] at hq ⊢
  have h1 := (topR_inv (g := g) (n := g.1.toNat)).nd
  have e1 : (topR g g.1.toNat).getD p 0 = (topR g g.1.toNat)[p] := by rw [List.getD_eq_getElem?_getD, List.getElem?_eq_getElem (by omega)]; rfl
  have e2 : (topR g g.1.toNat).getD q 0 = (topR g g.1.toNat)[q] := by rw [List.getD_eq_getElem?_getD, List.getElem?_eq_getElem hq]; rfl
  rw [e1, e2]
  intro e
  have := (List.nodup_iff_pairwise_ne.1 h1)
  exact (List.pairwise_iff_getElem.1 this p q (by omega) hq hp) e
attribute [local irreducible] insN insP eTo eFrom idL nwL ndE plnE vNew cmbN rvL khash topoL inL capN
set_option maxHeartbeats 80000000 in
theorem iMk_fn (g : Gr) (s d seed : Int) (h : g.2.1.length ≤ 1048576) : Fn Tryz.prog 45 true (.cons (GrA g) (.cons (.I s) (.cons (.I d) (.cons (.I seed) .nil)))) [] (.tup (.cons (.agg (.cons (.I (mkPl g s d seed).1) (.cons (.os (rt 16)) .nil))) (.cons (.b (mkB g s d)) .nil))) [(16, .row 107 (.tab (mkPl g s d seed).2.1.length 1 (cellsA EdgePlan_O (mkPl g s d seed).2.1)))] := by
  have ct := iTopo_fn g h
  by_cases hM : OkM g s d
  · rw [mkPl_yes hM, mkB_yes hM]
    obtain ⟨hA, hs0, hs1, hd0, hd1⟩ := hM
    obtain ⟨hv, _⟩ := acyB_iff.1 hA
    rw [hA] at ct
    obtain ⟨n, rfl⟩ : ∃ n : Nat, d = (n : Int) := ⟨d.toNat, by omega⟩
    have hg1 := hv.lo
    have hg2 := hv.hi
    have hg3 := hv.len
    have hw : IntKind.wrap .i64 (g.1 - 1) = g.1 - 1 := topN_eq hv.lo hv.hi
    have c1 := (hasNode_fn g s).tt (by rw [decide_eq_true]; omega)
    have c2 := (inRange_fn (n : Int) 1 8).tt (decide_eq_true (by omega))
    have hO := fun i (hi : i < (topoL g).length) => topo_at hA hi
    have hOi := fun p q (hp : p < q) (hq : q < (topoL g).length) => topo_inj hA hp hq
    have hOl := topoL_len (g := g)
    have en : ((n : Int)).toNat = n := rfl
    have cid := iId_fn n (by omega)
    simp only [en]
    (refine Fn_of tysOk Tryz.func45 rfl rfl (by simp [AV.len, Tryz.f45]) ⟨?_⟩; conv => whnf)
    (repeat' first | ((with_reducible show ∃ _ : Bool, _); first | (refine ⟨_, [], _, [], _, _, ct, rfl, trivial, zW, Nx.mk ?_⟩; conv => whnf)|(refine ⟨_, [], _, [], _, _, c1, rfl, trivial, zW, Nx.mk ?_⟩; conv => whnf)|(refine ⟨_, [], _, [], _, _, c2, rfl, trivial, zW, Nx.mk ?_⟩; conv => whnf)) | (refine ⟨g.2.1.length, g.2.1.length, rfl, rfl, Nat.le_refl _, by omega, Nx.mk ?_⟩; conv => whnf)|(refine zK (fun hs => ?_) (fun hs => ?_) <;> ((try simp only [Ct.len] at hs); revert hs; intro _; conv => whnf)) | (refine zI (fun _ => ?_) (fun _ => ?_)<;> conv => whnf)|((first|refine zA ?_|refine zB ?_|refine zC ?_|refine zD ?_|refine zE ?_|refine zF ?_|refine zG ?_|fail); conv => whnf)|(refine zJ (fun _ => ?_) ?_<;> conv => whnf)|((first | refine condN Tryz.underlying4 (Nx.mk ?_) | refine zH ?_ | refine Nx.mk ?_); conv => whnf))
    (all_goals try first | contradiction | (exfalso; omega))
    generalize topoL g = O at *
    refine loopI tysOk [nm 52, nm 59, nm 62, nm 78, nm 86, nm 90, nm 91, nm 102, nm 103] (fun i : Nat => [(47, .I i)]) (fun i => [(nm 43, some (.row 107 (.tab (plnE g s seed n O i).length 1 (cellsA EdgePlan_O (plnE g s seed n O i)))))]) (fun i => i ≤ O.length) (fun i => O.length - i) 0 (Nat.zero_le _) ?_ ?_
    · ((try conv => whnf); refine ⟨rfl, by rfl, ?_, ?_⟩ <;> ((repeat' ((try conv => whnf); (first|exact zU|refine And.intro ?_ ?_|exact fun _ _ _ _ => Eq.refl _|refine cellJ (fun _ _ => ?_)|(refine cellB ?_; (conv => whnf); refine And.intro ?_ ?_)|exact zV|fail))) <;> (try conv => whnf)))
      all_goals first | exact plnE_len.symm | exact plnE_zl | skip
    intro i hi
    by_cases hlt : i < O.length
    · obtain ⟨a0, a1⟩ := hO i hlt
      have hEl := plnE_len (g := g) (s := s) (seed := seed) (d := n) (O := O) (i := i)
      have hE := plnE_ok hv (s := s) (seed := seed) (d := n) (O := O) (i := i)
      have hsucc := plnE_succ (g := g) (s := s) (seed := seed) (d := n) (O := O) (i := i)
      have hnone : ∀ q, q < (eFrom g (O.getD i 0)).length → vE (plnE g s seed n O i) ((eFrom g (O.getD i 0)).getD q 0).toNat = [] := fun q hq => plnE_none (fun p hp => by rw [from_at hq]; exact hOi p i hp hlt)
      have cf := iFrom_fn g (O.getD i 0) (by omega)
      have hle := eFrom_leT (g := g) (a := O.getD i 0)
      have hok := fun k (hk : k < (eFrom g (O.getD i 0)).length) => eFrom_okT hk
      have hinj := fun p q (hp : p < q) (hq : q < (eFrom g (O.getD i 0)).length) => from_inj hp hq
      by_cases hsa : O.getD i 0 = s
      · rw [inL_yes hsa] at hsucc
        have hio : ∀ k, k < (idL n).length → LA.VecOk n ((idL n).getD k default) := idL_ok
        have hil : (idL n).length = n := idL_len
        generalize idL n = ins at *
        generalize hE' : plnE g s seed n O (i + 1) = E' at *
        generalize plnE g s seed n O i = E at *
        generalize eFrom g (O.getD i 0) = L at *
        (repeat' first | ((with_reducible show ∃ _ : Bool, _); first | (refine ⟨_, [], _, [], _, _, cid, rfl, trivial, zW, Nx.mk ?_⟩; conv => whnf)|(refine ⟨_, [], _, [], _, _, cf, rfl, trivial, zW, Nx.mk ?_⟩; conv => whnf))  | (refine zK (fun hs => ?_) (fun hs => ?_) <;> ((try simp only [Ct.len] at hs); revert hs; intro _; conv => whnf)) | (refine zI (fun _ => ?_) (fun _ => ?_)<;> conv => whnf)|((first|refine zA ?_|refine zB ?_|refine zC ?_|refine zD ?_|refine zE ?_|refine zF ?_|refine zG ?_|fail); conv => whnf)|(refine zJ (fun _ => ?_) ?_<;> conv => whnf)|((first | refine condN Tryz.underlying4 (Nx.mk ?_) | refine zH ?_ | refine Nx.mk ?_); conv => whnf))
        (all_goals try first | contradiction | (exfalso; omega))
        refine loopI tysOk [nm 78, nm 86, nm 90, nm 91, nm 102, nm 103] (fun j : Nat => [(64, .I j)]) (fun j => [(nm 43, some (.row 107 (.tab (ndE g seed ins n L E j).length 1 (cellsA EdgePlan_O (ndE g seed ins n L E j)))))]) (fun j => j ≤ L.length) (fun j => L.length - j) 0 (Nat.zero_le _) ?_ ?_
        · ((try conv => whnf); refine ⟨rfl, by rfl, ?_, ?_⟩ <;> ((repeat' ((try conv => whnf); (first|exact zU|refine And.intro ?_ ?_|exact fun _ _ _ _ => Eq.refl _|refine cellJ (fun _ _ => ?_)|(refine cellB ?_; (conv => whnf); refine And.intro ?_ ?_)|exact zV|fail))) <;> (try conv => whnf)))
          all_goals (try rw [ndE_zero])
        intro j hj
        by_cases hlj : j < L.length
        · obtain ⟨k0, k1⟩ := hok j hlj
          obtain ⟨q0, q1, q2⟩ := cap_eq hv k0 k1
          have hNl := ndE_len (g := g) (seed := seed) (ins := ins) (d := n) (L := L) (E := E) (j := j)
          have hNs := ndE_succ (g := g) (seed := seed) (ins := ins) (d := n) (L := L) (E := E) (j := j)
          have hNo := fun e (he : ∀ q, q < j → (L.getD q 0).toNat ≠ e) => ndE_out (g := g) (seed := seed) (ins := ins) (d := n) (L := L) (E := E) (e := e) he
          have hF0 : (ndE g seed ins n L E j).set (L.getD j 0).toNat (nwL seed ins n (L.getD j 0) 0, ()) = ndE g seed ins n L E j := by
            rw [nwL_zero]
            refine set_noneE ?_
            rw [hNo _ (fun q hq => hinj q j hq hlj)]
            exact hnone j hlj
          generalize hF' : ndE g seed ins n L E (j + 1) = F' at *
          generalize ndE g seed ins n L E j = F at *
          have hix : (L.getD j 0).toNat < F.length := by omega
          (repeat' first | (refine zK (fun hs => ?_) (fun hs => ?_) <;> ((try simp only [Ct.len] at hs); revert hs; intro _; conv => whnf)) | (refine zI (fun _ => ?_) (fun _ => ?_)<;> conv => whnf)|((first|refine zA ?_|refine zB ?_|refine zC ?_|refine zD ?_|refine zE ?_|refine zF ?_|refine zG ?_|fail); conv => whnf)|(refine zJ (fun _ => ?_) ?_<;> conv => whnf)|((first | refine condN Tryz.underlying4 (Nx.mk ?_) | refine zH ?_ | refine Nx.mk ?_); conv => whnf))
          (all_goals try first | contradiction | (exfalso; omega))
          refine loopI tysOk [nm 78, nm 86, nm 90, nm 91, nm 102, nm 103] (fun k : Nat => [(74, .I k)]) (fun k => [(nm 43, some (.row 107 (.tab F.length 1 (cellsA EdgePlan_O (F.set (L.getD j 0).toNat (nwL seed ins n (L.getD j 0) k, ()))))))]) (fun k => k ≤ capN g (L.getD j 0)) (fun k => capN g (L.getD j 0) - k) 0 (Nat.zero_le _) ?_ ?_
          · ((try conv => whnf); refine ⟨rfl, by rfl, ?_, ?_⟩ <;> ((repeat' ((try conv => whnf); (first|exact zU|refine And.intro ?_ ?_|exact fun _ _ _ _ => Eq.refl _|refine cellJ (fun _ _ => ?_)|(refine cellB ?_; (conv => whnf); refine And.intro ?_ ?_)|exact zV|fail))) <;> (try conv => whnf)))
            all_goals (rw [hF0]; try ((repeat' ((try conv => whnf); (first|exact zU|refine And.intro ?_ ?_|exact fun _ _ _ _ => Eq.refl _|refine cellJ (fun _ _ => ?_)|(refine cellB ?_; (conv => whnf); refine And.intro ?_ ?_)|exact zV|fail))) <;> (try conv => whnf)))
          intro k hk
          by_cases hlk : k < capN g (L.getD j 0)
          · have ckh := iKh_fn seed [L.getD j 0, (k : Int)] (by simp)
            have hnk := fun i (hi : i < k + 1) => nwL_at (seed := seed) (ins := ins) (d := n) (e := L.getD j 0) hi
            have hnk' := fun i (hi : i < k) => nwL_at (seed := seed) (ins := ins) (d := n) (e := L.getD j 0) hi
            have hkl := nwL_len (seed := seed) (ins := ins) (d := n) (e := L.getD j 0) (k := k)
            have hkl' := nwL_len (seed := seed) (ins := ins) (d := n) (e := L.getD j 0) (k := k + 1)
            have hss : (F.set (L.getD j 0).toNat (nwL seed ins n (L.getD j 0) k, ())).length = F.length := by simp
            have hgk : ((F.set (L.getD j 0).toNat (nwL seed ins n (L.getD j 0) k, ())).getD (L.getD j 0).toNat default).1 = nwL seed ins n (L.getD j 0) k := by rw [set_cellE hix, if_pos rfl]
            by_cases hin : 1 ≤ ins.length ∧ ins.length ≤ 40
            · have cir := (inRange_fn ((n : Nat) : Int) 1 40).tt (decide_eq_true (by omega))
              have crv := iRv_fn (khash seed [L.getD j 0, (k : Int)]) ins.length hin.1 hin.2
              have hrv := rvL_ok (seed := khash seed [L.getD j 0, (k : Int)]) (n := ins.length)
              have ccm := iCmb_fn ins (rvL (khash seed [L.getD j 0, (k : Int)]) ins.length) hin.1 hin.2 (by omega) hio hrv
              have hvn := vNew_yes (seed := seed) (ins := ins) (d := n) (e := L.getD j 0) (k := k) hin
              rw [← hvn] at ccm
              rw [hil] at ccm crv
              (repeat' first | ((with_reducible show ∃ _ : Bool, _); first | (refine ⟨_, [], _, [], _, _, cir, rfl, trivial, zW, Nx.mk ?_⟩; conv => whnf)|(refine ⟨_, [], _, [], _, _, ckh, rfl, trivial, zW, Nx.mk ?_⟩; conv => whnf)|(refine ⟨_, [], _, [], _, _, crv, rfl, trivial, zW, Nx.mk ?_⟩; conv => whnf)|(refine ⟨_, [], _, [], _, _, ccm, rfl, trivial, zW, Nx.mk ?_⟩; conv => whnf)) | (refine ⟨n, n, rfl, rfl, Nat.le_refl _, by omega, Nx.mk ?_⟩; conv => whnf)|(refine zK (fun hs => ?_) (fun hs => ?_) <;> ((try simp only [Ct.len] at hs); revert hs; intro _; conv => whnf)) | (refine zI (fun _ => ?_) (fun _ => ?_)<;> conv => whnf)|((first|refine zA ?_|refine zB ?_|refine zC ?_|refine zD ?_|refine zE ?_|refine zF ?_|refine zG ?_|fail); conv => whnf)|(refine zJ (fun _ => ?_) ?_<;> conv => whnf)|((first | refine condN Tryz.underlying4 (Nx.mk ?_) | refine zH ?_ | refine Nx.mk ?_); conv => whnf))
              (all_goals try first | contradiction | (exfalso; omega))
              have hgl : ((F.set (L.getD j 0).toNat (nwL seed ins n (L.getD j 0) k, ())).getD (L.getD j 0).toNat default).1.length = k := by rw [hgk, hkl]
              ((with_reducible show VC _ (.region _ _ true) _ _); refine VC_tree (sf := []) tysOk (by kernel_rfl) (.nd 11 0 (.nd 11 1 (.lf [2, 5, 9, 0, 1, 3, 4, 6, 7, 8, 10, 11, 12, 13, 14]) (.lf [2, 5, 9, 0, 3, 4, 6, 7, 8, 10, 11, 1, 12, 13, 14])) (.lf [2, 5, 9, 3, 4, 6, 7, 8, 10, 11, 0, 1, 12, 13, 14])) (by kernel_rfl) ?_; with_unfolding_all refine (And.intro (Nx.mk ?_) (And.intro (Nx.mk ?_) (And.intro (Nx.mk ?_) True.intro))) <;> conv => whnf)
              have hbe : Nat.beq (L.getD j 0).toNat (L.getD j 0).toNat = true := Nat.beq_refl _
              all_goals ((repeat' first | (refine condN (show ((F.set (L.getD j 0).toNat (nwL seed ins n (L.getD j 0) k, ())).getD (L.getD j 0).toNat default).1.length + 1 ≤ 1073741824 by omega) (Nx.mk ?_); conv => whnf)|(refine condN (show (L.getD j 0).toNat < F.length from hix) (Nx.mk ?_); conv => whnf)|(refine idxTo (by omega) (show L.getD j 0 < ((F.length : Nat) : Int) by omega) (Nx.mk ?_); conv => whnf)|(refine zK (fun hs => ?_) (fun hs => ?_) <;> ((try simp only [Ct.len] at hs); revert hs; intro _; conv => whnf)) | (refine zI (fun _ => ?_) (fun _ => ?_)<;> conv => whnf)|((first|refine zA ?_|refine zB ?_|refine zC ?_|refine zD ?_|refine zE ?_|refine zF ?_|refine zG ?_|fail); conv => whnf)|(refine zJ (fun _ => ?_) ?_<;> conv => whnf)|((first | refine condN Tryz.underlying4 (Nx.mk ?_) | refine zH ?_ | refine Nx.mk ?_); conv => whnf)))
              (all_goals try first | contradiction | (exfalso; omega))
              all_goals (refine stoM (N := rt (nm 43)) (Eq.refl _) (Eq.refl _) (Eq.refl _) ?_ (Eq.refl _) (show (L.getD j 0).toNat < F.length from hix) (Nx.mk ?_))
              all_goals first
                | (simp only [ownCells, Ct.kill, Ct.put, Ct.cell, Nat.beq_refl, Bool.and_self, Nat.add_zero, Nat.zero_add, cond_true, AV.kill, AV.sub, Option.isSome, Bool.or_false]; done)
                | conv => whnf
              all_goals (repeat' first | (refine zK (fun hs => ?_) (fun hs => ?_) <;> ((try simp only [Ct.len] at hs); revert hs; intro _; conv => whnf)) | (refine zI (fun _ => ?_) (fun _ => ?_)<;> conv => whnf)|((first|refine zA ?_|refine zB ?_|refine zC ?_|refine zD ?_|refine zE ?_|refine zF ?_|refine zG ?_|fail); conv => whnf)|(refine zJ (fun _ => ?_) ?_<;> conv => whnf)|((first | refine condN Tryz.underlying4 (Nx.mk ?_) | refine zH ?_ | refine Nx.mk ?_); conv => whnf))
              all_goals
                refine ⟨k + 1, by omega, by omega, ?_⟩
                ((try conv => whnf); refine ⟨rfl, by rfl, ?_, ?_⟩ <;> ((repeat' ((try conv => whnf); (first|exact zU|refine And.intro ?_ ?_|exact fun _ _ _ _ => Eq.refl _|refine cellJ (fun _ _ => ?_)|(refine cellB ?_; (conv => whnf); refine And.intro ?_ ?_)|exact zV|fail))) <;> (try conv => whnf)))
                all_goals
                  rename_i x hx
                  first
                  | (have hx : x < F.length := hx
                     by_cases ey : x = (L.getD j 0).toNat
                     · subst ey
                       simp only [Nat.beq_refl, Bool.and_true, Bool.true_and, cond_true, Blk.kill, Ct.kill, Ct.put, Ct.cell, Ct.len, Blk.asOwn, cellsA, set_cellE hix, if_true]
                       ((repeat' ((try conv => whnf); (first|exact zU|refine And.intro ?_ ?_|exact fun _ _ _ _ => Eq.refl _|refine cellJ (fun _ _ => ?_)|(refine cellB ?_; (conv => whnf); refine And.intro ?_ ?_)|exact zV|fail))) <;> (try conv => whnf))
                       all_goals first
                         | (simp only [nwL_len]; done)
                         | (rename_i y hy
                            have hy : y < (nwL seed ins n (L.getD j 0) k).length + 1 := hy
                            rw [hkl] at hy
                            by_cases e2 : y = k
                            · subst e2
                              simp only [hkl, Nat.beq_refl, Bool.and_true, Bool.true_and, cond_true, AV.kill, cellsA, hnk y (by omega)]
                              ((repeat' ((try conv => whnf); (first|exact zU|refine And.intro ?_ ?_|exact fun _ _ _ _ => Eq.refl _|refine cellJ (fun _ _ => ?_)|(refine cellB ?_; (conv => whnf); refine And.intro ?_ ?_)|exact zV|fail))) <;> (try conv => whnf))
                              all_goals (try (with_unfolding_all rfl))
                            · have e3 : y < k := by omega
                              simp only [hkl, beq_ne e2, Bool.and_false, Bool.false_and, cond_false, blt_of e3, cond_true, cellsA, hnk y (by omega), hnk' y e3]
                              ((repeat' ((try conv => whnf); (first|exact zU|refine And.intro ?_ ?_|exact fun _ _ _ _ => Eq.refl _|refine cellJ (fun _ _ => ?_)|(refine cellB ?_; (conv => whnf); refine And.intro ?_ ?_)|exact zV|fail))) <;> (try conv => whnf)))
                     · simp only [beq_ne ey, Bool.and_false, Bool.false_and, cond_false, Blk.kill, Ct.kill, Ct.put, Ct.cell, Ct.len, cellsA, set_cellE hix, if_neg ey]
                       ((repeat' ((try conv => whnf); (first|exact zU|refine And.intro ?_ ?_|exact fun _ _ _ _ => Eq.refl _|refine cellJ (fun _ _ => ?_)|(refine cellB ?_; (conv => whnf); refine And.intro ?_ ?_)|exact zV|fail))) <;> (try conv => whnf)))
            · exfalso; omega
          · obtain rfl : k = capN g (L.getD j 0) := by omega
            (repeat' first | (refine zK (fun hs => ?_) (fun hs => ?_) <;> ((try simp only [Ct.len] at hs); revert hs; intro _; conv => whnf)) | (refine zI (fun _ => ?_) (fun _ => ?_)<;> conv => whnf)|((first|refine zA ?_|refine zB ?_|refine zC ?_|refine zD ?_|refine zE ?_|refine zF ?_|refine zG ?_|fail); conv => whnf)|(refine zJ (fun _ => ?_) ?_<;> conv => whnf)|((first | refine condN Tryz.underlying4 (Nx.mk ?_) | refine zH ?_ | refine Nx.mk ?_); conv => whnf))
            (all_goals try first | contradiction | (exfalso; omega))
            refine ⟨j + 1, by omega, by omega, ?_⟩
            ((try conv => whnf); refine ⟨rfl, by rfl, ?_, ?_⟩ <;> ((repeat' ((try conv => whnf); (first|exact zU|refine And.intro ?_ ?_|exact fun _ _ _ _ => Eq.refl _|refine cellJ (fun _ _ => ?_)|(refine cellB ?_; (conv => whnf); refine And.intro ?_ ?_)|exact zV|fail))) <;> (try conv => whnf)))
            all_goals first
              | (rw [hF', hNs, List.length_set]; done)
              | (rw [hF', hNs]; done)
              | (rw [hF', hNs]; try ((repeat' ((try conv => whnf); (first|exact zU|refine And.intro ?_ ?_|exact fun _ _ _ _ => Eq.refl _|refine cellJ (fun _ _ => ?_)|(refine cellB ?_; (conv => whnf); refine And.intro ?_ ?_)|exact zV|fail))) <;> (try conv => whnf)))
              | skip
        · obtain rfl : j = L.length := by omega
          (repeat' first | (refine zK (fun hs => ?_) (fun hs => ?_) <;> ((try simp only [Ct.len] at hs); revert hs; intro _; conv => whnf)) | (refine zI (fun _ => ?_) (fun _ => ?_)<;> conv => whnf)|((first|refine zA ?_|refine zB ?_|refine zC ?_|refine zD ?_|refine zE ?_|refine zF ?_|refine zG ?_|fail); conv => whnf)|(refine zJ (fun _ => ?_) ?_<;> conv => whnf)|((first | refine condN Tryz.underlying4 (Nx.mk ?_) | refine zH ?_ | refine Nx.mk ?_); conv => whnf))
          (all_goals try first | contradiction | (exfalso; omega))
          refine ⟨i + 1, by omega, by omega, ?_⟩
          ((try conv => whnf); refine ⟨rfl, by rfl, ?_, ?_⟩ <;> ((repeat' ((try conv => whnf); (first|exact zU|refine And.intro ?_ ?_|exact fun _ _ _ _ => Eq.refl _|refine cellJ (fun _ _ => ?_)|(refine cellB ?_; (conv => whnf); refine And.intro ?_ ?_)|exact zV|fail))) <;> (try conv => whnf)))
          all_goals first | (rw [hE', hsucc]; done) | (rw [hE', hsucc]; ((repeat' ((try conv => whnf); (first|exact zU|refine And.intro ?_ ?_|exact fun _ _ _ _ => Eq.refl _|refine cellJ (fun _ _ => ?_)|(refine cellB ?_; (conv => whnf); refine And.intro ?_ ?_)|exact zV|fail))) <;> (try conv => whnf)))
      · rw [inL_no hsa] at hsucc
        have hpl0 := insP_len (E := plnE g s seed n O i) (L := eTo g (O.getD i 0)) (j := (eTo g (O.getD i 0)).length)
        have cv := iVTo_fn g (plnE g s seed n O i) (O.getD i 0) n (by omega) hEl hE.len
        have hio : ∀ k, k < (insL g (plnE g s seed n O i) (O.getD i 0)).length → LA.VecOk n ((insL g (plnE g s seed n O i) (O.getD i 0)).getD k default) := (insN_ok hE).1
        have hil : (insL g (plnE g s seed n O i) (O.getD i 0)).length ≤ 160 := by
          have h1 := (insN_ok hE (L := eTo g (O.getD i 0)) (j := (eTo g (O.getD i 0)).length)).2
          have h2 := eTo_leT (g := g) (a := O.getD i 0)
          have h3 : (insL g (plnE g s seed n O i) (O.getD i 0)).length ≤ 8 * (eTo g (O.getD i 0)).length := h1
          omega
        have hane := fun k (hk : k < (insP (plnE g s seed n O i) (eTo g (O.getD i 0)) (eTo g (O.getD i 0)).length).length) q (hq : q < (eFrom g (O.getD i 0)).length) => alias_ne hv hk hq
        have hal : ∀ k, k < (insP (plnE g s seed n O i) (eTo g (O.getD i 0)) (eTo g (O.getD i 0)).length).length → (insL g (plnE g s seed n O i) (O.getD i 0)).getD k default = (vE (plnE g s seed n O i) ((insP (plnE g s seed n O i) (eTo g (O.getD i 0)) (eTo g (O.getD i 0)).length).getD k (0, 0)).1).getD ((insP (plnE g s seed n O i) (eTo g (O.getD i 0)) (eTo g (O.getD i 0)).length).getD k (0, 0)).2 default := fun k hk => (insP_at (by rw [← hpl0]; exact hk)).1
        have hpl : (insP (plnE g s seed n O i) (eTo g (O.getD i 0)) (eTo g (O.getD i 0)).length).length = (insL g (plnE g s seed n O i) (O.getD i 0)).length := hpl0
        clear hpl0
        generalize insL g (plnE g s seed n O i) (O.getD i 0) = ins at *
        generalize insP (plnE g s seed n O i) (eTo g (O.getD i 0)) (eTo g (O.getD i 0)).length = P at *
        generalize hE' : plnE g s seed n O (i + 1) = E' at *
        generalize plnE g s seed n O i = E at *
        generalize eFrom g (O.getD i 0) = L at *
        (repeat' first | ((with_reducible show ∃ _ : Bool, _); first | (refine ⟨_, [], _, [], _, _, cid, rfl, trivial, zW, Nx.mk ?_⟩; conv => whnf)|(refine ⟨_, [], _, [], _, _, cf, rfl, trivial, zW, Nx.mk ?_⟩; conv => whnf)|(refine ⟨_, [rt (nm 43)], _, _, _, _, cv, rfl, zW, zW, Nx.mk ?_⟩; conv => whnf))  | (refine zK (fun hs => ?_) (fun hs => ?_) <;> ((try simp only [Ct.len] at hs); revert hs; intro _; conv => whnf)) | (refine zI (fun _ => ?_) (fun _ => ?_)<;> conv => whnf)|((first|refine zA ?_|refine zB ?_|refine zC ?_|refine zD ?_|refine zE ?_|refine zF ?_|refine zG ?_|fail); conv => whnf)|(refine zJ (fun _ => ?_) ?_<;> conv => whnf)|((first | refine condN Tryz.underlying4 (Nx.mk ?_) | refine zH ?_ | refine Nx.mk ?_); conv => whnf))
        (all_goals try first | contradiction | (exfalso; omega))
        refine loopI tysOk [nm 78, nm 86, nm 90, nm 91, nm 102, nm 103] (fun j : Nat => [(64, .I j)]) (fun j => [(nm 43, some (.row 107 (.tab (ndE g seed ins n L E j).length 1 (cellsA EdgePlan_O (ndE g seed ins n L E j)))))]) (fun j => j ≤ L.length) (fun j => L.length - j) 0 (Nat.zero_le _) ?_ ?_
        · ((try conv => whnf); refine ⟨rfl, by rfl, ?_, ?_⟩ <;> ((repeat' ((try conv => whnf); (first|exact zU|refine And.intro ?_ ?_|exact fun _ _ _ _ => Eq.refl _|refine cellJ (fun _ _ => ?_)|(refine cellB ?_; (conv => whnf); refine And.intro ?_ ?_)|exact zV|fail))) <;> (try conv => whnf)))
          all_goals (try rw [ndE_zero])
        intro j hj
        by_cases hlj : j < L.length
        · obtain ⟨k0, k1⟩ := hok j hlj
          obtain ⟨q0, q1, q2⟩ := cap_eq hv k0 k1
          have hNl := ndE_len (g := g) (seed := seed) (ins := ins) (d := n) (L := L) (E := E) (j := j)
          have hNs := ndE_succ (g := g) (seed := seed) (ins := ins) (d := n) (L := L) (E := E) (j := j)
          have hNo := fun e (he : ∀ q, q < j → (L.getD q 0).toNat ≠ e) => ndE_out (g := g) (seed := seed) (ins := ins) (d := n) (L := L) (E := E) (e := e) he
          have hF0 : (ndE g seed ins n L E j).set (L.getD j 0).toNat (nwL seed ins n (L.getD j 0) 0, ()) = ndE g seed ins n L E j := by
            rw [nwL_zero]
            refine set_noneE ?_
            rw [hNo _ (fun q hq => hinj q j hq hlj)]
            exact hnone j hlj
          have hFo : ∀ x, x < P.length → vE (ndE g seed ins n L E j) (P.getD x (0, 0)).1 = vE E (P.getD x (0, 0)).1 := fun x hx => hNo _ (fun q hq => (hane x hx q (by omega)).symm)
          generalize hF' : ndE g seed ins n L E (j + 1) = F' at *
          generalize ndE g seed ins n L E j = F at *
          have hix : (L.getD j 0).toNat < F.length := by omega
          (repeat' first | (refine zK (fun hs => ?_) (fun hs => ?_) <;> ((try simp only [Ct.len] at hs); revert hs; intro _; conv => whnf)) | (refine zI (fun _ => ?_) (fun _ => ?_)<;> conv => whnf)|((first|refine zA ?_|refine zB ?_|refine zC ?_|refine zD ?_|refine zE ?_|refine zF ?_|refine zG ?_|fail); conv => whnf)|(refine zJ (fun _ => ?_) ?_<;> conv => whnf)|((first | refine condN Tryz.underlying4 (Nx.mk ?_) | refine zH ?_ | refine Nx.mk ?_); conv => whnf))
          (all_goals try first | contradiction | (exfalso; omega))
          refine loopI tysOk [nm 78, nm 86, nm 90, nm 91, nm 102, nm 103] (fun k : Nat => [(74, .I k)]) (fun k => [(nm 43, some (.row 107 (.tab F.length 1 (cellsA EdgePlan_O (F.set (L.getD j 0).toNat (nwL seed ins n (L.getD j 0) k, ()))))))]) (fun k => k ≤ capN g (L.getD j 0)) (fun k => capN g (L.getD j 0) - k) 0 (Nat.zero_le _) ?_ ?_
          · ((try conv => whnf); refine ⟨rfl, by rfl, ?_, ?_⟩ <;> ((repeat' ((try conv => whnf); (first|exact zU|refine And.intro ?_ ?_|exact fun _ _ _ _ => Eq.refl _|refine cellJ (fun _ _ => ?_)|(refine cellB ?_; (conv => whnf); refine And.intro ?_ ?_)|exact zV|fail))) <;> (try conv => whnf)))
            all_goals (rw [hF0]; try ((repeat' ((try conv => whnf); (first|exact zU|refine And.intro ?_ ?_|exact fun _ _ _ _ => Eq.refl _|refine cellJ (fun _ _ => ?_)|(refine cellB ?_; (conv => whnf); refine And.intro ?_ ?_)|exact zV|fail))) <;> (try conv => whnf)))
          intro k hk
          by_cases hlk : k < capN g (L.getD j 0)
          · have ckh := iKh_fn seed [L.getD j 0, (k : Int)] (by simp)
            have hnk := fun i (hi : i < k + 1) => nwL_at (seed := seed) (ins := ins) (d := n) (e := L.getD j 0) hi
            have hnk' := fun i (hi : i < k) => nwL_at (seed := seed) (ins := ins) (d := n) (e := L.getD j 0) hi
            have hkl := nwL_len (seed := seed) (ins := ins) (d := n) (e := L.getD j 0) (k := k)
            have hkl' := nwL_len (seed := seed) (ins := ins) (d := n) (e := L.getD j 0) (k := k + 1)
            have hss : (F.set (L.getD j 0).toNat (nwL seed ins n (L.getD j 0) k, ())).length = F.length := by simp
            have hgk : ((F.set (L.getD j 0).toNat (nwL seed ins n (L.getD j 0) k, ())).getD (L.getD j 0).toNat default).1 = nwL seed ins n (L.getD j 0) k := by rw [set_cellE hix, if_pos rfl]
            have hals : ∀ x, x < P.length → ((F.set (L.getD j 0).toNat (nwL seed ins n (L.getD j 0) k, ())).getD (P.getD x (0, 0)).1 default).1.getD (P.getD x (0, 0)).2 default = ins.getD x default := fun x hx => by
              rw [set_cellE hix, if_neg (hane x hx j hlj), hal x hx]
              exact congrArg (fun l : List (List Int) => l.getD (P.getD x (0, 0)).2 default) (hFo x hx)
            by_cases hin : 1 ≤ ins.length ∧ ins.length ≤ 40
            · have cir := (inRange_fn (P.length : Int) 1 40).tt (decide_eq_true (by omega))
              have crv := iRv_fn (khash seed [L.getD j 0, (k : Int)]) ins.length hin.1 hin.2
              have hrv := rvL_ok (seed := khash seed [L.getD j 0, (k : Int)]) (n := ins.length)
              have ccm := iCmb_fn ins (rvL (khash seed [L.getD j 0, (k : Int)]) ins.length) hin.1 hin.2 (by omega) hio hrv
              have hvn := vNew_yes (seed := seed) (ins := ins) (d := n) (e := L.getD j 0) (k := k) hin
              rw [← hvn] at ccm
              rw [← hpl] at ccm crv
              (repeat' first | ((with_reducible show ∃ _ : Bool, _); first | (refine ⟨_, [], _, [], _, _, cir, rfl, trivial, zW, Nx.mk ?_⟩; conv => whnf)|(refine ⟨_, [], _, [], _, _, ckh, rfl, trivial, zW, Nx.mk ?_⟩; conv => whnf)|(refine ⟨_, [], _, [], _, _, crv, rfl, trivial, zW, Nx.mk ?_⟩; conv => whnf)) | (refine ⟨n, n, rfl, rfl, Nat.le_refl _, by omega, Nx.mk ?_⟩; conv => whnf)|(refine zK (fun hs => ?_) (fun hs => ?_) <;> ((try simp only [Ct.len] at hs); revert hs; intro _; conv => whnf)) | (refine zI (fun _ => ?_) (fun _ => ?_)<;> conv => whnf)|((first|refine zA ?_|refine zB ?_|refine zC ?_|refine zD ?_|refine zE ?_|refine zF ?_|refine zG ?_|fail); conv => whnf)|(refine zJ (fun _ => ?_) ?_<;> conv => whnf)|((first | refine condN Tryz.underlying4 (Nx.mk ?_) | refine zH ?_ | refine Nx.mk ?_); conv => whnf))
              (all_goals try first | contradiction | (exfalso; omega))
              refine ⟨_, [], _, [], _, _, ccm, rfl, trivial, ?_, Nx.mk ?_⟩
              · ((repeat' ((try conv => whnf); (first|exact zU|refine And.intro ?_ ?_|exact fun _ _ _ _ => Eq.refl _|refine cellJ (fun _ _ => ?_)|(refine cellB ?_; (conv => whnf); refine And.intro ?_ ?_)|exact zV|fail))) <;> (try conv => whnf))
                all_goals (rename_i x hx; exact hals x hx)
              conv => whnf
              have hgl : ((F.set (L.getD j 0).toNat (nwL seed ins n (L.getD j 0) k, ())).getD (L.getD j 0).toNat default).1.length = k := by rw [hgk, hkl]
              ((with_reducible show VC _ (.region _ _ true) _ _); refine VC_tree (sf := []) tysOk (by kernel_rfl) (.nd 11 0 (.nd 11 1 (.lf [2, 5, 9, 0, 1, 3, 4, 6, 7, 8, 10, 11, 12, 13, 14]) (.lf [2, 5, 9, 0, 3, 4, 6, 7, 8, 10, 11, 1, 12, 13, 14])) (.lf [2, 5, 9, 3, 4, 6, 7, 8, 10, 11, 0, 1, 12, 13, 14])) (by kernel_rfl) ?_; with_unfolding_all refine (And.intro (Nx.mk ?_) (And.intro (Nx.mk ?_) (And.intro (Nx.mk ?_) True.intro))) <;> conv => whnf)
              have hbe : Nat.beq (L.getD j 0).toNat (L.getD j 0).toNat = true := Nat.beq_refl _
              all_goals ((repeat' first | (refine condN (show ((F.set (L.getD j 0).toNat (nwL seed ins n (L.getD j 0) k, ())).getD (L.getD j 0).toNat default).1.length + 1 ≤ 1073741824 by omega) (Nx.mk ?_); conv => whnf)|(refine condN (show (L.getD j 0).toNat < F.length from hix) (Nx.mk ?_); conv => whnf)|(refine idxTo (by omega) (show L.getD j 0 < ((F.length : Nat) : Int) by omega) (Nx.mk ?_); conv => whnf)|(refine zK (fun hs => ?_) (fun hs => ?_) <;> ((try simp only [Ct.len] at hs); revert hs; intro _; conv => whnf)) | (refine zI (fun _ => ?_) (fun _ => ?_)<;> conv => whnf)|((first|refine zA ?_|refine zB ?_|refine zC ?_|refine zD ?_|refine zE ?_|refine zF ?_|refine zG ?_|fail); conv => whnf)|(refine zJ (fun _ => ?_) ?_<;> conv => whnf)|((first | refine condN Tryz.underlying4 (Nx.mk ?_) | refine zH ?_ | refine Nx.mk ?_); conv => whnf)))
              (all_goals try first | contradiction | (exfalso; omega))
              all_goals (refine stoM (N := rt (nm 43)) (Eq.refl _) (Eq.refl _) (Eq.refl _) ?_ (Eq.refl _) (show (L.getD j 0).toNat < F.length from hix) (Nx.mk ?_))
              all_goals first
                | (simp only [ownCells, Ct.kill, Ct.put, Ct.cell, Nat.beq_refl, Bool.and_self, Nat.add_zero, Nat.zero_add, cond_true, AV.kill, AV.sub, Option.isSome, Bool.or_false]; done)
                | conv => whnf
              all_goals (repeat' first | (refine zK (fun hs => ?_) (fun hs => ?_) <;> ((try simp only [Ct.len] at hs); revert hs; intro _; conv => whnf)) | (refine zI (fun _ => ?_) (fun _ => ?_)<;> conv => whnf)|((first|refine zA ?_|refine zB ?_|refine zC ?_|refine zD ?_|refine zE ?_|refine zF ?_|refine zG ?_|fail); conv => whnf)|(refine zJ (fun _ => ?_) ?_<;> conv => whnf)|((first | refine condN Tryz.underlying4 (Nx.mk ?_) | refine zH ?_ | refine Nx.mk ?_); conv => whnf))
              all_goals
                refine ⟨k + 1, by omega, by omega, ?_⟩
                ((try conv => whnf); refine ⟨rfl, by rfl, ?_, ?_⟩ <;> ((repeat' ((try conv => whnf); (first|exact zU|refine And.intro ?_ ?_|exact fun _ _ _ _ => Eq.refl _|refine cellJ (fun _ _ => ?_)|(refine cellB ?_; (conv => whnf); refine And.intro ?_ ?_)|exact zV|fail))) <;> (try conv => whnf)))
                all_goals
                  rename_i x hx
                  first
                  | (have hx : x < P.length := hx
                     have hpk : preK (nm 43) (L.getD j 0).toNat 0 ⟨nm 43, [((P.getD x (0, 0)).1, 0), ((P.getD x (0, 0)).2, 0)]⟩ = false := preK_cons.2 (fun hh => hane x hx j hlj hh.1)
                     show avle _ (AV.kill _ (AV.kill _ (AV.kill _ (AV.kill (preK (nm 43) (L.getD j 0).toNat 0) (.os ⟨nm 43, [((P.getD x (0, 0)).1, 0), ((P.getD x (0, 0)).2, 0)]⟩))))) true (.os ⟨nm 43, [((P.getD x (0, 0)).1, 0), ((P.getD x (0, 0)).2, 0)]⟩)
                     rw [kill_os hpk]
                     ((repeat' ((try conv => whnf); (first|exact zU|refine And.intro ?_ ?_|exact fun _ _ _ _ => Eq.refl _|refine cellJ (fun _ _ => ?_)|(refine cellB ?_; (conv => whnf); refine And.intro ?_ ?_)|exact zV|fail))) <;> (try conv => whnf))
                     done)
                  | (have hx : x < F.length := hx
                     by_cases ey : x = (L.getD j 0).toNat
                     · subst ey
                       simp only [Nat.beq_refl, Bool.and_true, Bool.true_and, cond_true, Blk.kill, Ct.kill, Ct.put, Ct.cell, Ct.len, Blk.asOwn, cellsA, set_cellE hix, if_true]
                       ((repeat' ((try conv => whnf); (first|exact zU|refine And.intro ?_ ?_|exact fun _ _ _ _ => Eq.refl _|refine cellJ (fun _ _ => ?_)|(refine cellB ?_; (conv => whnf); refine And.intro ?_ ?_)|exact zV|fail))) <;> (try conv => whnf))
                       all_goals first
                         | (simp only [nwL_len]; done)
                         | (rename_i y hy
                            have hy : y < (nwL seed ins n (L.getD j 0) k).length + 1 := hy
                            rw [hkl] at hy
                            by_cases e2 : y = k
                            · subst e2
                              simp only [hkl, Nat.beq_refl, Bool.and_true, Bool.true_and, cond_true, AV.kill, cellsA, hnk y (by omega)]
                              ((repeat' ((try conv => whnf); (first|exact zU|refine And.intro ?_ ?_|exact fun _ _ _ _ => Eq.refl _|refine cellJ (fun _ _ => ?_)|(refine cellB ?_; (conv => whnf); refine And.intro ?_ ?_)|exact zV|fail))) <;> (try conv => whnf))
                              all_goals (try (with_unfolding_all rfl))
                            · have e3 : y < k := by omega
                              simp only [hkl, beq_ne e2, Bool.and_false, Bool.false_and, cond_false, blt_of e3, cond_true, cellsA, hnk y (by omega), hnk' y e3]
                              ((repeat' ((try conv => whnf); (first|exact zU|refine And.intro ?_ ?_|exact fun _ _ _ _ => Eq.refl _|refine cellJ (fun _ _ => ?_)|(refine cellB ?_; (conv => whnf); refine And.intro ?_ ?_)|exact zV|fail))) <;> (try conv => whnf)))
                     · simp only [beq_ne ey, Bool.and_false, Bool.false_and, cond_false, Blk.kill, Ct.kill, Ct.put, Ct.cell, Ct.len, cellsA, set_cellE hix, if_neg ey]
                       ((repeat' ((try conv => whnf); (first|exact zU|refine And.intro ?_ ?_|exact fun _ _ _ _ => Eq.refl _|refine cellJ (fun _ _ => ?_)|(refine cellB ?_; (conv => whnf); refine And.intro ?_ ?_)|exact zV|fail))) <;> (try conv => whnf)))
            · have cir := (inRange_fn (P.length : Int) 1 40).res (r' := .b false) (by rw [decide_eq_false (by omega)])
              have hvn := vNew_no (seed := seed) (ins := ins) (d := n) (e := L.getD j 0) (k := k) hin
              (repeat' first | ((with_reducible show ∃ _ : Bool, _); first | (refine ⟨_, [], _, [], _, _, cir, rfl, trivial, zW, Nx.mk ?_⟩; conv => whnf)) | (refine ⟨n, n, rfl, rfl, Nat.le_refl _, by omega, Nx.mk ?_⟩; conv => whnf)|(refine zK (fun hs => ?_) (fun hs => ?_) <;> ((try simp only [Ct.len] at hs); revert hs; intro _; conv => whnf)) | (refine zI (fun _ => ?_) (fun _ => ?_)<;> conv => whnf)|((first|refine zA ?_|refine zB ?_|refine zC ?_|refine zD ?_|refine zE ?_|refine zF ?_|refine zG ?_|fail); conv => whnf)|(refine zJ (fun _ => ?_) ?_<;> conv => whnf)|((first | refine condN Tryz.underlying4 (Nx.mk ?_) | refine zH ?_ | refine Nx.mk ?_); conv => whnf))
              (all_goals try first | contradiction | (exfalso; omega))
              have hgl : ((F.set (L.getD j 0).toNat (nwL seed ins n (L.getD j 0) k, ())).getD (L.getD j 0).toNat default).1.length = k := by rw [hgk, hkl]
              ((with_reducible show VC _ (.region _ _ true) _ _); refine VC_tree (sf := []) tysOk (by kernel_rfl) (.nd 11 0 (.nd 11 1 (.lf [2, 5, 9, 0, 1, 3, 4, 6, 7, 8, 10, 11, 12, 13, 14]) (.lf [2, 5, 9, 0, 3, 4, 6, 7, 8, 10, 11, 1, 12, 13, 14])) (.lf [2, 5, 9, 3, 4, 6, 7, 8, 10, 11, 0, 1, 12, 13, 14])) (by kernel_rfl) ?_; with_unfolding_all refine (And.intro (Nx.mk ?_) (And.intro (Nx.mk ?_) (And.intro (Nx.mk ?_) True.intro))) <;> conv => whnf)
              have hbe : Nat.beq (L.getD j 0).toNat (L.getD j 0).toNat = true := Nat.beq_refl _
              all_goals ((repeat' first | (refine condN (show ((F.set (L.getD j 0).toNat (nwL seed ins n (L.getD j 0) k, ())).getD (L.getD j 0).toNat default).1.length + 1 ≤ 1073741824 by omega) (Nx.mk ?_); conv => whnf)|(refine condN (show (L.getD j 0).toNat < F.length from hix) (Nx.mk ?_); conv => whnf)|(refine idxTo (by omega) (show L.getD j 0 < ((F.length : Nat) : Int) by omega) (Nx.mk ?_); conv => whnf)|(refine zK (fun hs => ?_) (fun hs => ?_) <;> ((try simp only [Ct.len] at hs); revert hs; intro _; conv => whnf)) | (refine zI (fun _ => ?_) (fun _ => ?_)<;> conv => whnf)|((first|refine zA ?_|refine zB ?_|refine zC ?_|refine zD ?_|refine zE ?_|refine zF ?_|refine zG ?_|fail); conv => whnf)|(refine zJ (fun _ => ?_) ?_<;> conv => whnf)|((first | refine condN Tryz.underlying4 (Nx.mk ?_) | refine zH ?_ | refine Nx.mk ?_); conv => whnf)))
              (all_goals try first | contradiction | (exfalso; omega))
              all_goals (refine stoM (N := rt (nm 43)) (Eq.refl _) (Eq.refl _) (Eq.refl _) ?_ (Eq.refl _) (show (L.getD j 0).toNat < F.length from hix) (Nx.mk ?_))
              all_goals first
                | (simp only [ownCells, Ct.kill, Ct.put, Ct.cell, Nat.beq_refl, Bool.and_self, Nat.add_zero, Nat.zero_add, cond_true, AV.kill, AV.sub, Option.isSome, Bool.or_false]; done)
                | conv => whnf
              all_goals (repeat' first | (refine zK (fun hs => ?_) (fun hs => ?_) <;> ((try simp only [Ct.len] at hs); revert hs; intro _; conv => whnf)) | (refine zI (fun _ => ?_) (fun _ => ?_)<;> conv => whnf)|((first|refine zA ?_|refine zB ?_|refine zC ?_|refine zD ?_|refine zE ?_|refine zF ?_|refine zG ?_|fail); conv => whnf)|(refine zJ (fun _ => ?_) ?_<;> conv => whnf)|((first | refine condN Tryz.underlying4 (Nx.mk ?_) | refine zH ?_ | refine Nx.mk ?_); conv => whnf))
              all_goals
                refine ⟨k + 1, by omega, by omega, ?_⟩
                ((try conv => whnf); refine ⟨rfl, by rfl, ?_, ?_⟩ <;> ((repeat' ((try conv => whnf); (first|exact zU|refine And.intro ?_ ?_|exact fun _ _ _ _ => Eq.refl _|refine cellJ (fun _ _ => ?_)|(refine cellB ?_; (conv => whnf); refine And.intro ?_ ?_)|exact zV|fail))) <;> (try conv => whnf)))
                all_goals
                  rename_i x hx
                  first
                  | (have hx : x < P.length := hx
                     have hpk : preK (nm 43) (L.getD j 0).toNat 0 ⟨nm 43, [((P.getD x (0, 0)).1, 0), ((P.getD x (0, 0)).2, 0)]⟩ = false := preK_cons.2 (fun hh => hane x hx j hlj hh.1)
                     show avle _ (AV.kill _ (AV.kill _ (AV.kill _ (AV.kill (preK (nm 43) (L.getD j 0).toNat 0) (.os ⟨nm 43, [((P.getD x (0, 0)).1, 0), ((P.getD x (0, 0)).2, 0)]⟩))))) true (.os ⟨nm 43, [((P.getD x (0, 0)).1, 0), ((P.getD x (0, 0)).2, 0)]⟩)
                     rw [kill_os hpk]
                     ((repeat' ((try conv => whnf); (first|exact zU|refine And.intro ?_ ?_|exact fun _ _ _ _ => Eq.refl _|refine cellJ (fun _ _ => ?_)|(refine cellB ?_; (conv => whnf); refine And.intro ?_ ?_)|exact zV|fail))) <;> (try conv => whnf))
                     done)
                  | (have hx : x < F.length := hx
                     by_cases ey : x = (L.getD j 0).toNat
                     · subst ey
                       simp only [Nat.beq_refl, Bool.and_true, Bool.true_and, cond_true, Blk.kill, Ct.kill, Ct.put, Ct.cell, Ct.len, Blk.asOwn, cellsA, set_cellE hix, if_true]
                       ((repeat' ((try conv => whnf); (first|exact zU|refine And.intro ?_ ?_|exact fun _ _ _ _ => Eq.refl _|refine cellJ (fun _ _ => ?_)|(refine cellB ?_; (conv => whnf); refine And.intro ?_ ?_)|exact zV|fail))) <;> (try conv => whnf))
                       all_goals first
                         | (simp only [nwL_len]; done)
                         | (rename_i y hy
                            have hy : y < (nwL seed ins n (L.getD j 0) k).length + 1 := hy
                            rw [hkl] at hy
                            by_cases e2 : y = k
                            · subst e2
                              simp only [hkl, Nat.beq_refl, Bool.and_true, Bool.true_and, cond_true, AV.kill, cellsA, hnk y (by omega), hvn]
                              ((repeat' ((try conv => whnf); (first|exact zU|refine And.intro ?_ ?_|exact fun _ _ _ _ => Eq.refl _|refine cellJ (fun _ _ => ?_)|(refine cellB ?_; (conv => whnf); refine And.intro ?_ ?_)|exact zV|fail))) <;> (try conv => whnf))
                              all_goals (try (with_unfolding_all rfl))
                            · have e3 : y < k := by omega
                              simp only [hkl, beq_ne e2, Bool.and_false, Bool.false_and, cond_false, blt_of e3, cond_true, cellsA, hnk y (by omega), hnk' y e3]
                              ((repeat' ((try conv => whnf); (first|exact zU|refine And.intro ?_ ?_|exact fun _ _ _ _ => Eq.refl _|refine cellJ (fun _ _ => ?_)|(refine cellB ?_; (conv => whnf); refine And.intro ?_ ?_)|exact zV|fail))) <;> (try conv => whnf)))
                     · simp only [beq_ne ey, Bool.and_false, Bool.false_and, cond_false, Blk.kill, Ct.kill, Ct.put, Ct.cell, Ct.len, cellsA, set_cellE hix, if_neg ey]
                       ((repeat' ((try conv => whnf); (first|exact zU|refine And.intro ?_ ?_|exact fun _ _ _ _ => Eq.refl _|refine cellJ (fun _ _ => ?_)|(refine cellB ?_; (conv => whnf); refine And.intro ?_ ?_)|exact zV|fail))) <;> (try conv => whnf)))
          · obtain rfl : k = capN g (L.getD j 0) := by omega
            (repeat' first | (refine zK (fun hs => ?_) (fun hs => ?_) <;> ((try simp only [Ct.len] at hs); revert hs; intro _; conv => whnf)) | (refine zI (fun _ => ?_) (fun _ => ?_)<;> conv => whnf)|((first|refine zA ?_|refine zB ?_|refine zC ?_|refine zD ?_|refine zE ?_|refine zF ?_|refine zG ?_|fail); conv => whnf)|(refine zJ (fun _ => ?_) ?_<;> conv => whnf)|((first | refine condN Tryz.underlying4 (Nx.mk ?_) | refine zH ?_ | refine Nx.mk ?_); conv => whnf))
            (all_goals try first | contradiction | (exfalso; omega))
            refine ⟨j + 1, by omega, by omega, ?_⟩
            ((try conv => whnf); refine ⟨rfl, by rfl, ?_, ?_⟩ <;> ((repeat' ((try conv => whnf); (first|exact zU|refine And.intro ?_ ?_|exact fun _ _ _ _ => Eq.refl _|refine cellJ (fun _ _ => ?_)|(refine cellB ?_; (conv => whnf); refine And.intro ?_ ?_)|exact zV|fail))) <;> (try conv => whnf)))
            all_goals first
              | (rw [hF', hNs, List.length_set]; done)
              | (rw [hF', hNs]; done)
              | (rw [hF', hNs]; try ((repeat' ((try conv => whnf); (first|exact zU|refine And.intro ?_ ?_|exact fun _ _ _ _ => Eq.refl _|refine cellJ (fun _ _ => ?_)|(refine cellB ?_; (conv => whnf); refine And.intro ?_ ?_)|exact zV|fail))) <;> (try conv => whnf)))
              | skip
        · obtain rfl : j = L.length := by omega
          (repeat' first | (refine zK (fun hs => ?_) (fun hs => ?_) <;> ((try simp only [Ct.len] at hs); revert hs; intro _; conv => whnf)) | (refine zI (fun _ => ?_) (fun _ => ?_)<;> conv => whnf)|((first|refine zA ?_|refine zB ?_|refine zC ?_|refine zD ?_|refine zE ?_|refine zF ?_|refine zG ?_|fail); conv => whnf)|(refine zJ (fun _ => ?_) ?_<;> conv => whnf)|((first | refine condN Tryz.underlying4 (Nx.mk ?_) | refine zH ?_ | refine Nx.mk ?_); conv => whnf))
          (all_goals try first | contradiction | (exfalso; omega))
          refine ⟨i + 1, by omega, by omega, ?_⟩
          ((try conv => whnf); refine ⟨rfl, by rfl, ?_, ?_⟩ <;> ((repeat' ((try conv => whnf); (first|exact zU|refine And.intro ?_ ?_|exact fun _ _ _ _ => Eq.refl _|refine cellJ (fun _ _ => ?_)|(refine cellB ?_; (conv => whnf); refine And.intro ?_ ?_)|exact zV|fail))) <;> (try conv => whnf)))
          all_goals first | (rw [hE', hsucc]; done) | (rw [hE', hsucc]; ((repeat' ((try conv => whnf); (first|exact zU|refine And.intro ?_ ?_|exact fun _ _ _ _ => Eq.refl _|refine cellJ (fun _ _ => ?_)|(refine cellB ?_; (conv => whnf); refine And.intro ?_ ?_)|exact zV|fail))) <;> (try conv => whnf)))
    · obtain rfl : i = O.length := by omega
      (repeat' first | (refine zK (fun hs => ?_) (fun hs => ?_) <;> ((try simp only [Ct.len] at hs); revert hs; intro _; conv => whnf)) | (refine zI (fun _ => ?_) (fun _ => ?_)<;> conv => whnf)|((first|refine zA ?_|refine zB ?_|refine zC ?_|refine zD ?_|refine zE ?_|refine zF ?_|refine zG ?_|fail); conv => whnf)|(refine zJ (fun _ => ?_) ?_<;> conv => whnf)|((first | refine condN Tryz.underlying4 (Nx.mk ?_) | refine zH ?_ | refine Nx.mk ?_); conv => whnf))
      (all_goals try first | contradiction | (exfalso; omega))
      all_goals
        refine ⟨[(16, nm 43)], rfl, ?_, ?_, ?_, fun _ => ?_⟩
        · ((try conv => whnf); refine ⟨rfl, by rfl, ?_, ?_⟩ <;> ((repeat' ((try conv => whnf); (first|exact zU|refine And.intro ?_ ?_|exact fun _ _ _ _ => Eq.refl _|refine cellJ (fun _ _ => ?_)|(refine cellB ?_; (conv => whnf); refine And.intro ?_ ?_)|exact zV|fail))) <;> (try conv => whnf)))
        all_goals ((repeat' ((try conv => whnf); (first|exact zU|refine And.intro ?_ ?_|exact fun _ _ _ _ => Eq.refl _|refine cellJ (fun _ _ => ?_)|(refine cellB ?_; (conv => whnf); refine And.intro ?_ ?_)|exact zV|fail))) <;> (try conv => whnf))
  · rw [mkPl_no hM, mkB_no hM]
    cases hA : acyB g with
    | false =>
      rw [hA] at ct
      (refine Fn_of tysOk Tryz.func45 rfl rfl (by simp [AV.len, Tryz.f45]) ⟨?_⟩; conv => whnf)
      (repeat' first | ((with_reducible show ∃ _ : Bool, _); first | (refine ⟨_, [], _, [], _, _, ct, rfl, trivial, zW, Nx.mk ?_⟩; conv => whnf))  | (refine zK (fun hs => ?_) (fun hs => ?_) <;> ((try simp only [Ct.len] at hs); revert hs; intro _; conv => whnf)) | (refine zI (fun _ => ?_) (fun _ => ?_)<;> conv => whnf)|((first|refine zA ?_|refine zB ?_|refine zC ?_|refine zD ?_|refine zE ?_|refine zF ?_|refine zG ?_|fail); conv => whnf)|(refine zJ (fun _ => ?_) ?_<;> conv => whnf)|((first | refine condN Tryz.underlying4 (Nx.mk ?_) | refine zH ?_ | refine Nx.mk ?_); conv => whnf))
      (all_goals try first | contradiction | (exfalso; omega))
      all_goals
        refine ⟨[], rfl, ?_, ?_, ?_, fun _ => ?_⟩
        · ((try conv => whnf); refine ⟨rfl, by rfl, ?_, ?_⟩ <;> ((repeat' ((try conv => whnf); (first|exact zU|refine And.intro ?_ ?_|exact fun _ _ _ _ => Eq.refl _|refine cellJ (fun _ _ => ?_)|(refine cellB ?_; (conv => whnf); refine And.intro ?_ ?_)|exact zV|fail))) <;> (try conv => whnf)))
        all_goals ((repeat' ((try conv => whnf); (first|exact zU|refine And.intro ?_ ?_|exact fun _ _ _ _ => Eq.refl _|refine cellJ (fun _ _ => ?_)|(refine cellB ?_; (conv => whnf); refine And.intro ?_ ?_)|exact zV|fail))) <;> (try conv => whnf))
    | true =>
      rw [hA] at ct
      obtain ⟨hv, _⟩ := acyB_iff.1 hA
      have hg1 := hv.lo
      have hg2 := hv.hi
      have hw : IntKind.wrap .i64 (g.1 - 1) = g.1 - 1 := topN_eq hv.lo hv.hi
      have hM' : ¬ (0 ≤ s ∧ s ≤ g.1 - 1 ∧ 1 ≤ d ∧ d ≤ 8) := fun hc => hM ⟨hA, hc.1, by omega, hc.2.2.1, hc.2.2.2⟩
      (refine Fn_of tysOk Tryz.func45 rfl rfl (by simp [AV.len, Tryz.f45]) ⟨?_⟩; conv => whnf)
      (repeat' first | ((with_reducible show ∃ _ : Bool, _); first | (refine ⟨_, [], _, [], _, _, ct, rfl, trivial, zW, Nx.mk ?_⟩; conv => whnf)|(refine ⟨_, [], _, [], _, _, hasNode_fn g s, rfl, trivial, zW, Nx.mk ?_⟩; conv => whnf)|(refine ⟨_, [], _, [], _, _, inRange_fn d 1 8, rfl, trivial, zW, Nx.mk ?_⟩; conv => whnf))  | (refine zK (fun hs => ?_) (fun hs => ?_) <;> ((try simp only [Ct.len] at hs); revert hs; intro _; conv => whnf)) | (refine zI (fun _ => ?_) (fun _ => ?_)<;> conv => whnf)|((first|refine zA ?_|refine zB ?_|refine zC ?_|refine zD ?_|refine zE ?_|refine zF ?_|refine zG ?_|fail); conv => whnf)|(refine zJ (fun _ => ?_) ?_<;> conv => whnf)|((first | refine condN Tryz.underlying4 (Nx.mk ?_) | refine zH ?_ | refine Nx.mk ?_); conv => whnf))
      (all_goals try first | contradiction | (exfalso; omega))
      all_goals
        refine ⟨[], rfl, ?_, ?_, ?_, fun _ => ?_⟩
        · ((try conv => whnf); refine ⟨rfl, by rfl, ?_, ?_⟩ <;> ((repeat' ((try conv => whnf); (first|exact zU|refine And.intro ?_ ?_|exact fun _ _ _ _ => Eq.refl _|refine cellJ (fun _ _ => ?_)|(refine cellB ?_; (conv => whnf); refine And.intro ?_ ?_)|exact zV|fail))) <;> (try conv => whnf)))
        all_goals ((repeat' ((try conv => whnf); (first|exact zU|refine And.intro ?_ ?_|exact fun _ _ _ _ => Eq.refl _|refine cellJ (fun _ _ => ?_)|(refine cellB ?_; (conv => whnf); refine And.intro ?_ ?_)|exact zV|fail))) <;> (try conv => whnf))
end Go.Proofs.YtbepgedckfhifaaGreat
