/-
  MakePlan of the reference.
-/
import Derived.Test.YtbepgedckfhifaaGreatFiJq
namespace Go.Proofs.YtbepgedckfhifaaGreat
set_option linter.unusedVariables false
set_option linter.unusedSimpArgs false
set_option maxRecDepth 100000
set_option maxHeartbeats 4000000
attribute [local irreducible] Fn
attribute [local irreducible] insN insP eTo eFrom idL nwL ndE plnE vNew cmbN rvL khash topoL inL capN
theorem sMk_fn (g : Gr) (s d seed : Int) (h : g.2.1.length ≤ 1048576) : Fn Tryz.prog 42 true (.cons (GrA g) (.cons (.I s) (.cons (.I d) (.cons (.I seed) .nil)))) [] (.tup (.cons (.agg (.cons (.I (mkPl g s d seed).1) (.cons (.os (rt 16)) .nil))) (.cons (.b (mkB g s d)) .nil))) [(16, .row 107 (.tab (mkPl g s d seed).2.1.length 1 (cellsA EdgePlan_O (mkPl g s d seed).2.1)))] := by
  have ct := sTopo_fn g h
  by_cases hM : OkM g s d
  · rw [mkPl_yes hM, mkB_yes hM]
    obtain ⟨hA, hs0, hs1, hd0, hd1⟩ := hM
    obtain ⟨hv, _⟩ := acyB_iff.1 hA
    rw [hA] at ct
    obtain ⟨n, rfl⟩ : ∃ n : Nat, d = (n : Int) := ⟨d.toNat, by omega⟩
    have hg1 := hv.lo
    have hg2 := hv.hi
    have hg3 := hv.len
    have c1 := (l1In_fn s 0 (g.1 - 1)).tt (decide_eq_true (by omega))
    have c2 := (l1In_fn (n : Int) 1 8).tt (decide_eq_true (by omega))
    have hO := fun i (hi : i < (topoL g).length) => topo_at hA hi
    have hOl := topoL_len (g := g)
    have en : ((n : Int)).toNat = n := rfl
    simp only [en]
    (refine Fn_of tysOk Tryz.func42 rfl rfl (by simp [AV.len, Tryz.f42]) ⟨?_⟩; conv => whnf)
    (repeat' first | ((with_reducible show ∃ _ : Bool, _); first | (refine ⟨_, [], _, [], _, _, ct, rfl, trivial, zW, Nx.mk ?_⟩; conv => whnf)|(refine ⟨_, [], _, [], _, _, c1, rfl, trivial, zW, Nx.mk ?_⟩; conv => whnf)|(refine ⟨_, [], _, [], _, _, c2, rfl, trivial, zW, Nx.mk ?_⟩; conv => whnf)) | (refine ⟨g.2.1.length, g.2.1.length, rfl, rfl, Nat.le_refl _, by omega, Nx.mk ?_⟩; conv => whnf)|(refine zK (fun hs => ?_) (fun hs => ?_) <;> ((try simp only [Ct.len] at hs); revert hs; intro _; conv => whnf)) | (refine zI (fun _ => ?_) (fun _ => ?_)<;> conv => whnf)|((first|refine zA ?_|refine zB ?_|refine zC ?_|refine zD ?_|refine zE ?_|refine zF ?_|refine zG ?_|fail); conv => whnf)|(refine zJ (fun _ => ?_) ?_<;> conv => whnf)|((first | refine condN Tryz.underlying4 (Nx.mk ?_) | refine zH ?_ | refine Nx.mk ?_); conv => whnf))
    (all_goals try first | contradiction | (exfalso; omega))
    generalize topoL g = O at *
    refine loopI tysOk [nm 62, nm 68, nm 17, nm 96, nm 100, nm 101, nm 106, nm 110, nm 111] (fun i : Nat => [(13, .I i)]) (fun i => [(nm 45, some (.row 107 (.tab (plnE g s seed n O i).length 1 (cellsA EdgePlan_O (plnE g s seed n O i)))))]) (fun i => i ≤ O.length) (fun i => O.length - i) 0 (Nat.zero_le _) ?_ ?_
    · ((try conv => whnf); refine ⟨rfl, by rfl, ?_, ?_⟩ <;> ((repeat' ((try conv => whnf); (first|exact zU|refine And.intro ?_ ?_|exact fun _ _ _ _ => Eq.refl _|refine cellJ (fun _ _ => ?_)|(refine cellB ?_; (conv => whnf); refine And.intro ?_ ?_)|exact zV|fail))) <;> (try conv => whnf)))
      all_goals first | exact plnE_len.symm | exact plnE_zl | skip
    intro i hi
    by_cases hlt : i < O.length
    · obtain ⟨a0, a1⟩ := hO i hlt
      have hEl := plnE_len (g := g) (s := s) (seed := seed) (d := n) (O := O) (i := i)
      have hEl' := plnE_len (g := g) (s := s) (seed := seed) (d := n) (O := O) (i := i + 1)
      have hE := plnE_ok hv (s := s) (seed := seed) (d := n) (O := O) (i := i)
      have hsucc := plnE_succ (g := g) (s := s) (seed := seed) (d := n) (O := O) (i := i)
      have hio := inL_ok (g := g) (s := s) (a := O.getD i 0) hE
      have ci := sIns_fn g (plnE g s seed n O i) s (O.getD i 0) n (by omega) hEl hE (by omega)
      have cf := sFrom_fn g (O.getD i 0) (by omega)
      have hle := eFrom_leT (g := g) (a := O.getD i 0)
      have hok := fun k (hk : k < (eFrom g (O.getD i 0)).length) => eFrom_okT hk
      have hil : (inL g (plnE g s seed n O i) s (O.getD i 0) n).length ≤ 160 := by
        by_cases e : O.getD i 0 = s
        · rw [inL_yes e, idL_len]; omega
        · rw [inL_no e]
          have h1 := (insN_ok hE (L := eTo g (O.getD i 0)) (j := (eTo g (O.getD i 0)).length)).2
          have h2 := eTo_leT (g := g) (a := O.getD i 0)
          have h3 : (insL g (plnE g s seed n O i) (O.getD i 0)).length ≤ 8 * (eTo g (O.getD i 0)).length := h1
          omega
      generalize inL g (plnE g s seed n O i) s (O.getD i 0) n = ins at *
      generalize hE' : plnE g s seed n O (i + 1) = E' at *
      generalize plnE g s seed n O i = E at *
      generalize eFrom g (O.getD i 0) = L at *
      (repeat' first | ((with_reducible show ∃ _ : Bool, _); first | (refine ⟨_, [], _, [], _, _, ci, rfl, trivial, zW, Nx.mk ?_⟩; conv => whnf)|(refine ⟨_, [], _, [], _, _, cf, rfl, trivial, zW, Nx.mk ?_⟩; conv => whnf)) | ((refine VC_draw (sf := []) tysOk (by kernel_rfl) (by kernel_rfl) (Nx.mk ?_); conv => whnf)) | (refine zK (fun hs => ?_) (fun hs => ?_) <;> ((try simp only [Ct.len] at hs); revert hs; intro _; conv => whnf)) | (refine zI (fun _ => ?_) (fun _ => ?_)<;> conv => whnf)|((first|refine zA ?_|refine zB ?_|refine zC ?_|refine zD ?_|refine zE ?_|refine zF ?_|refine zG ?_|fail); conv => whnf)|(refine zJ (fun _ => ?_) ?_<;> conv => whnf)|((first | refine condN Tryz.underlying4 (Nx.mk ?_) | refine zH ?_ | refine Nx.mk ?_); conv => whnf))
      (all_goals try first | contradiction | (exfalso; omega))
      refine loopI tysOk [nm 17, nm 96, nm 100, nm 101, nm 106, nm 110, nm 111] (fun j : Nat => [(16, .I j)]) (fun j => [(nm 45, some (.row 107 (.tab (ndE g seed ins n L E j).length 1 (cellsA EdgePlan_O (ndE g seed ins n L E j)))))]) (fun j => j ≤ L.length) (fun j => L.length - j) 0 (Nat.zero_le _) ?_ ?_
      · ((try conv => whnf); refine ⟨rfl, by rfl, ?_, ?_⟩ <;> ((repeat' ((try conv => whnf); (first|exact zU|refine And.intro ?_ ?_|exact fun _ _ _ _ => Eq.refl _|refine cellJ (fun _ _ => ?_)|(refine cellB ?_; (conv => whnf); refine And.intro ?_ ?_)|exact zV|fail))) <;> (try conv => whnf)))
        all_goals (try rw [ndE_zero])
      intro j hj
      by_cases hlj : j < L.length
      · obtain ⟨k0, k1⟩ := hok j hlj
        obtain ⟨q0, q1, q2⟩ := cap_eq hv k0 k1
        have hNl := ndE_len (g := g) (seed := seed) (ins := ins) (d := n) (L := L) (E := E) (j := j)
        have hNs := ndE_succ (g := g) (seed := seed) (ins := ins) (d := n) (L := L) (E := E) (j := j)
        have hNl' := ndE_len (g := g) (seed := seed) (ins := ins) (d := n) (L := L) (E := E) (j := j + 1)
        generalize hF' : ndE g seed ins n L E (j + 1) = F' at *
        generalize ndE g seed ins n L E j = F at *
        (repeat' first | (refine zK (fun hs => ?_) (fun hs => ?_) <;> ((try simp only [Ct.len] at hs); revert hs; intro _; conv => whnf)) | (refine zI (fun _ => ?_) (fun _ => ?_)<;> conv => whnf)|((first|refine zA ?_|refine zB ?_|refine zC ?_|refine zD ?_|refine zE ?_|refine zF ?_|refine zG ?_|fail); conv => whnf)|(refine zJ (fun _ => ?_) ?_<;> conv => whnf)|((first | refine condN Tryz.underlying4 (Nx.mk ?_) | refine zH ?_ | refine Nx.mk ?_); conv => whnf))
        (all_goals try first | contradiction | (exfalso; omega))
        refine loopI tysOk [nm 96, nm 100, nm 101, nm 106, nm 110, nm 111] (fun k : Nat => [(18, .I k)]) (fun k => [(nm 111, some (.row 22 (.tab k 1 (cellsA ints_O_i64 (nwL seed ins n (L.getD j 0) k))))), (nm 17, some (.box (.cons (.os (rt (nm 111))) .nil)))]) (fun k => k ≤ capN g (L.getD j 0)) (fun k => capN g (L.getD j 0) - k) 0 (Nat.zero_le _) ?_ ?_
        · ((try conv => whnf); refine ⟨rfl, by rfl, ?_, ?_⟩ <;> ((repeat' ((try conv => whnf); (first|exact zU|refine And.intro ?_ ?_|exact fun _ _ _ _ => Eq.refl _|refine cellJ (fun _ _ => ?_)|(refine cellB ?_; (conv => whnf); refine And.intro ?_ ?_)|exact zV|fail))) <;> (try conv => whnf)))
          all_goals (try omega)
        intro k hk
        by_cases hlk : k < capN g (L.getD j 0)
        · have ckh := sKh_fn seed [L.getD j 0, (k : Int)] (by simp)
          have hnk := fun i (hi : i < k + 1) => nwL_at (seed := seed) (ins := ins) (d := n) (e := L.getD j 0) hi
          have hnk' := fun i (hi : i < k) => nwL_at (seed := seed) (ins := ins) (d := n) (e := L.getD j 0) hi
          by_cases hin : 1 ≤ ins.length ∧ ins.length ≤ 40
          · have crv := sRv_fn (khash seed [L.getD j 0, (k : Int)]) ins.length hin.1 hin.2
            have hrv := rvL_ok (seed := khash seed [L.getD j 0, (k : Int)]) (n := ins.length)
            have hcm := cmbN_ok (cs := rvL (khash seed [L.getD j 0, (k : Int)]) ins.length) (hio 0 (by omega)).1 (i := ins.length)
            have hcml := hcm.1
            have ccm := sCmb_fn ins (rvL (khash seed [L.getD j 0, (k : Int)]) ins.length) hin.1 hin.2 (by omega) hio hrv
            have hvn := vNew_yes (seed := seed) (ins := ins) (d := n) (e := L.getD j 0) (k := k) hin
            rw [← hvn] at ccm hcml
            (repeat' first | ((with_reducible show ∃ _ : Bool, _); first | (refine ⟨_, [], _, [], _, _, ckh, rfl, trivial, zW, Nx.mk ?_⟩; conv => whnf)|(refine ⟨_, [], _, [], _, _, crv, rfl, trivial, zW, Nx.mk ?_⟩; conv => whnf)|(refine ⟨_, [], _, [], _, _, ccm, rfl, trivial, zW, Nx.mk ?_⟩; conv => whnf)) | ((refine VC_draw (sf := []) tysOk (by kernel_rfl) (by kernel_rfl) (Nx.mk ?_); conv => whnf)) | (refine zK (fun hs => ?_) (fun hs => ?_) <;> ((try simp only [Ct.len] at hs); revert hs; intro _; conv => whnf)) | (refine zI (fun _ => ?_) (fun _ => ?_)<;> conv => whnf)|((first|refine zA ?_|refine zB ?_|refine zC ?_|refine zD ?_|refine zE ?_|refine zF ?_|refine zG ?_|fail); conv => whnf)|(refine zJ (fun _ => ?_) ?_<;> conv => whnf)|((first | refine condN Tryz.underlying4 (Nx.mk ?_) | refine zH ?_ | refine Nx.mk ?_); conv => whnf))
            (all_goals try first | contradiction | (exfalso; omega))
            refine ⟨k + 1, by omega, by omega, ?_⟩
            ((try conv => whnf); refine ⟨rfl, by rfl, ?_, ?_⟩ <;> ((repeat' ((try conv => whnf); (first|exact zU|refine And.intro ?_ ?_|exact fun _ _ _ _ => Eq.refl _|refine cellJ (fun _ _ => ?_)|(refine cellB ?_; (conv => whnf); refine And.intro ?_ ?_)|exact zV|fail))) <;> (try conv => whnf)))
            all_goals
              rename_i x hx
              have hx : x < k + 1 := hx
              by_cases e : x = k
              · subst e
                simp only [Ct.len, Nat.beq_refl, Bool.and_true, Bool.true_and, cond_true, Blk.kill, Ct.kill, Blk.asOwn, cellsA, hnk x (by omega)]
                ((repeat' ((try conv => whnf); (first|exact zU|refine And.intro ?_ ?_|exact fun _ _ _ _ => Eq.refl _|refine cellJ (fun _ _ => ?_)|(refine cellB ?_; (conv => whnf); refine And.intro ?_ ?_)|exact zV|fail))) <;> (try conv => whnf))
                all_goals (try (with_unfolding_all rfl))
              · have e2 : x < k := by omega
                simp only [Ct.len, beq_ne e, Bool.false_and, cond_false, Ct.kill, Ct.cell, blt_of e2, cond_true, cellsA, hnk x (by omega), hnk' x e2]
                ((repeat' ((try conv => whnf); (first|exact zU|refine And.intro ?_ ?_|exact fun _ _ _ _ => Eq.refl _|refine cellJ (fun _ _ => ?_)|(refine cellB ?_; (conv => whnf); refine And.intro ?_ ?_)|exact zV|fail))) <;> (try conv => whnf))
          · have crv := sRv0_fn (khash seed [L.getD j 0, (k : Int)]) ins.length (by omega) (by omega)
            have ccm := sCmb0_fn ins [] (by rcases Nat.eq_zero_or_pos ins.length with h0 | h0; exact .inl h0; exact .inr (by show ins.length ≠ 0; omega)) (by omega) (by simp)
            have hvn := vNew_no (seed := seed) (ins := ins) (d := n) (e := L.getD j 0) (k := k) hin
            (repeat' first | ((with_reducible show ∃ _ : Bool, _); first | (refine ⟨_, [], _, [], _, _, ckh, rfl, trivial, zW, Nx.mk ?_⟩; conv => whnf)|(refine ⟨_, [], _, [], _, _, crv, rfl, trivial, zW, Nx.mk ?_⟩; conv => whnf)|(refine ⟨_, [], _, [], _, _, ccm, rfl, trivial, zW, Nx.mk ?_⟩; conv => whnf)) | ((refine VC_draw (sf := []) tysOk (by kernel_rfl) (by kernel_rfl) (Nx.mk ?_); conv => whnf)) | (refine ⟨n, n, rfl, rfl, Nat.le_refl _, by omega, Nx.mk ?_⟩; conv => whnf)|(refine zK (fun hs => ?_) (fun hs => ?_) <;> ((try simp only [Ct.len] at hs); revert hs; intro _; conv => whnf)) | (refine zI (fun _ => ?_) (fun _ => ?_)<;> conv => whnf)|((first|refine zA ?_|refine zB ?_|refine zC ?_|refine zD ?_|refine zE ?_|refine zF ?_|refine zG ?_|fail); conv => whnf)|(refine zJ (fun _ => ?_) ?_<;> conv => whnf)|((first | refine condN Tryz.underlying4 (Nx.mk ?_) | refine zH ?_ | refine Nx.mk ?_); conv => whnf))
            (all_goals try first | contradiction | (exfalso; omega))
            refine ⟨k + 1, by omega, by omega, ?_⟩
            ((try conv => whnf); refine ⟨rfl, by rfl, ?_, ?_⟩ <;> ((repeat' ((try conv => whnf); (first|exact zU|refine And.intro ?_ ?_|exact fun _ _ _ _ => Eq.refl _|refine cellJ (fun _ _ => ?_)|(refine cellB ?_; (conv => whnf); refine And.intro ?_ ?_)|exact zV|fail))) <;> (try conv => whnf)))
            all_goals
              rename_i x hx
              have hx : x < k + 1 := hx
              by_cases e : x = k
              · subst e
                simp only [Ct.len, Nat.beq_refl, Bool.and_true, Bool.true_and, cond_true, Blk.kill, Ct.kill, Blk.asOwn, cellsA, hnk x (by omega), hvn]
                ((repeat' ((try conv => whnf); (first|exact zU|refine And.intro ?_ ?_|exact fun _ _ _ _ => Eq.refl _|refine cellJ (fun _ _ => ?_)|(refine cellB ?_; (conv => whnf); refine And.intro ?_ ?_)|exact zV|fail))) <;> (try conv => whnf))
                all_goals (try (with_unfolding_all rfl))
              · have e2 : x < k := by omega
                simp only [Ct.len, beq_ne e, Bool.false_and, cond_false, Ct.kill, Ct.cell, blt_of e2, cond_true, cellsA, hnk x (by omega), hnk' x e2]
                ((repeat' ((try conv => whnf); (first|exact zU|refine And.intro ?_ ?_|exact fun _ _ _ _ => Eq.refl _|refine cellJ (fun _ _ => ?_)|(refine cellB ?_; (conv => whnf); refine And.intro ?_ ?_)|exact zV|fail))) <;> (try conv => whnf))
        · obtain rfl : k = capN g (L.getD j 0) := by omega
          (repeat' first | ((refine VC_draw (sf := []) tysOk (by kernel_rfl) (by kernel_rfl) (Nx.mk ?_); conv => whnf)) | (refine zK (fun hs => ?_) (fun hs => ?_) <;> ((try simp only [Ct.len] at hs); revert hs; intro _; conv => whnf)) | (refine zI (fun _ => ?_) (fun _ => ?_)<;> conv => whnf)|((first|refine zA ?_|refine zB ?_|refine zC ?_|refine zD ?_|refine zE ?_|refine zF ?_|refine zG ?_|fail); conv => whnf)|(refine zJ (fun _ => ?_) ?_<;> conv => whnf)|((first | refine condN Tryz.underlying4 (Nx.mk ?_) | refine zH ?_ | refine Nx.mk ?_); conv => whnf))
          (all_goals try first | contradiction | (exfalso; omega))
          refine ⟨j + 1, by omega, by omega, ?_⟩
          ((try conv => whnf); refine ⟨rfl, by rfl, ?_, ?_⟩ <;> ((repeat' ((try conv => whnf); (first|exact zU|refine And.intro ?_ ?_|exact fun _ _ _ _ => Eq.refl _|refine cellJ (fun _ _ => ?_)|(refine cellB ?_; (conv => whnf); refine And.intro ?_ ?_)|exact zV|fail))) <;> (try conv => whnf)))
          · rw [hF', hNl']; exact hNl
          all_goals
            rename_i x hx
            have hix : (L.getD j 0).toNat < F.length := by omega
            by_cases e : x = (L.getD j 0).toNat
            · simp only [hF', hNs, cellsA, set_cellE hix, if_pos e, e, if_true, Nat.beq_refl, Ct.len, Bool.and_true, Bool.true_and, cond_true, Blk.kill, Ct.kill, Ct.put, Ct.cell, Blk.asOwn]
              ((repeat' ((try conv => whnf); (first|exact zU|refine And.intro ?_ ?_|exact fun _ _ _ _ => Eq.refl _|refine cellJ (fun _ _ => ?_)|(refine cellB ?_; (conv => whnf); refine And.intro ?_ ?_)|exact zV|fail))) <;> (try conv => whnf))
              all_goals (try exact nwL_len.symm)
            · simp only [hF', hNs, cellsA, set_cellE hix, if_neg e, beq_ne e, Ct.len, Bool.and_false, Bool.false_and, cond_false, Blk.kill, Ct.kill, Ct.put, Ct.cell, Blk.asOwn]
              ((repeat' ((try conv => whnf); (first|exact zU|refine And.intro ?_ ?_|exact fun _ _ _ _ => Eq.refl _|refine cellJ (fun _ _ => ?_)|(refine cellB ?_; (conv => whnf); refine And.intro ?_ ?_)|exact zV|fail))) <;> (try conv => whnf))
      · obtain rfl : j = L.length := by omega
        (repeat' first | (refine zK (fun hs => ?_) (fun hs => ?_) <;> ((try simp only [Ct.len] at hs); revert hs; intro _; conv => whnf)) | (refine zI (fun _ => ?_) (fun _ => ?_)<;> conv => whnf)|((first|refine zA ?_|refine zB ?_|refine zC ?_|refine zD ?_|refine zE ?_|refine zF ?_|refine zG ?_|fail); conv => whnf)|(refine zJ (fun _ => ?_) ?_<;> conv => whnf)|((first | refine condN Tryz.underlying4 (Nx.mk ?_) | refine zH ?_ | refine Nx.mk ?_); conv => whnf))
        (all_goals try first | contradiction | (exfalso; omega))
        refine ⟨i + 1, by omega, by omega, ?_⟩
        ((try conv => whnf); refine ⟨rfl, by rfl, ?_, ?_⟩ <;> ((repeat' ((try conv => whnf); (first|exact zU|refine And.intro ?_ ?_|exact fun _ _ _ _ => Eq.refl _|refine cellJ (fun _ _ => ?_)|(refine cellB ?_; (conv => whnf); refine And.intro ?_ ?_)|exact zV|fail))) <;> (try conv => whnf)))
        all_goals first | (rw [hE', hsucc]; done) | (rw [hE', hsucc]; ((repeat' ((try conv => whnf); (first|exact zU|refine And.intro ?_ ?_|exact fun _ _ _ _ => Eq.refl _|refine cellJ (fun _ _ => ?_)|(refine cellB ?_; (conv => whnf); refine And.intro ?_ ?_)|exact zV|fail))) <;> (try conv => whnf)))
    · obtain rfl : i = O.length := by omega
      (repeat' first | (refine zK (fun hs => ?_) (fun hs => ?_) <;> ((try simp only [Ct.len] at hs); revert hs; intro _; conv => whnf)) | (refine zI (fun _ => ?_) (fun _ => ?_)<;> conv => whnf)|((first|refine zA ?_|refine zB ?_|refine zC ?_|refine zD ?_|refine zE ?_|refine zF ?_|refine zG ?_|fail); conv => whnf)|(refine zJ (fun _ => ?_) ?_<;> conv => whnf)|((first | refine condN Tryz.underlying4 (Nx.mk ?_) | refine zH ?_ | refine Nx.mk ?_); conv => whnf))
      (all_goals try first | contradiction | (exfalso; omega))
      all_goals
        refine ⟨[(16, nm 45)], rfl, ?_, ?_, ?_, fun _ => ?_⟩
        · ((try conv => whnf); refine ⟨rfl, by rfl, ?_, ?_⟩ <;> ((repeat' ((try conv => whnf); (first|exact zU|refine And.intro ?_ ?_|exact fun _ _ _ _ => Eq.refl _|refine cellJ (fun _ _ => ?_)|(refine cellB ?_; (conv => whnf); refine And.intro ?_ ?_)|exact zV|fail))) <;> (try conv => whnf)))
        all_goals ((repeat' ((try conv => whnf); (first|exact zU|refine And.intro ?_ ?_|exact fun _ _ _ _ => Eq.refl _|refine cellJ (fun _ _ => ?_)|(refine cellB ?_; (conv => whnf); refine And.intro ?_ ?_)|exact zV|fail))) <;> (try conv => whnf))
  · rw [mkPl_no hM, mkB_no hM]
    cases hA : acyB g with
    | false =>
      rw [hA] at ct
      (refine Fn_of tysOk Tryz.func42 rfl rfl (by simp [AV.len, Tryz.f42]) ⟨?_⟩; conv => whnf)
      (repeat' first | ((with_reducible show ∃ _ : Bool, _); first | (refine ⟨_, [], _, [], _, _, ct, rfl, trivial, zW, Nx.mk ?_⟩; conv => whnf))  | (refine zK (fun hs => ?_) (fun hs => ?_) <;> ((try simp only [Ct.len] at hs); revert hs; intro _; conv => whnf)) | (refine zI (fun _ => ?_) (fun _ => ?_)<;> conv => whnf)|((first|refine zA ?_|refine zB ?_|refine zC ?_|refine zD ?_|refine zE ?_|refine zF ?_|refine zG ?_|fail); conv => whnf)|(refine zJ (fun _ => ?_) ?_<;> conv => whnf)|((first | refine condN Tryz.underlying4 (Nx.mk ?_) | refine zH ?_ | refine Nx.mk ?_); conv => whnf))
      (all_goals try first | contradiction | (exfalso; omega))
      all_goals
        refine ⟨[], rfl, ?_, ?_, ?_, fun _ => ?_⟩
        · ((try conv => whnf); refine ⟨rfl, by rfl, ?_, ?_⟩ <;> ((repeat' ((try conv => whnf); (first|exact zU|refine And.intro ?_ ?_|exact fun _ _ _ _ => Eq.refl _|refine cellJ (fun _ _ => ?_)|(refine cellB ?_; (conv => whnf); refine And.intro ?_ ?_)|exact zV|fail))) <;> (try conv => whnf)))
        all_goals ((repeat' ((try conv => whnf); (first|exact zU|refine And.intro ?_ ?_|exact fun _ _ _ _ => Eq.refl _|refine cellJ (fun _ _ => ?_)|(refine cellB ?_; (conv => whnf); refine And.intro ?_ ?_)|exact zV|fail))) <;> (try conv => whnf))
    | true =>
      rw [hA] at ct
      obtain ⟨hv, _⟩ := acyB_iff.1 hA
      have hg1 := hv.lo
      have hg2 := hv.hi
      have hM' : ¬ (0 ≤ s ∧ s ≤ g.1 - 1 ∧ 1 ≤ d ∧ d ≤ 8) := fun hc => hM ⟨hA, hc.1, by omega, hc.2.2.1, hc.2.2.2⟩
      (refine Fn_of tysOk Tryz.func42 rfl rfl (by simp [AV.len, Tryz.f42]) ⟨?_⟩; conv => whnf)
      (repeat' first | ((with_reducible show ∃ _ : Bool, _); first | (refine ⟨_, [], _, [], _, _, ct, rfl, trivial, zW, Nx.mk ?_⟩; conv => whnf)|(refine ⟨_, [], _, [], _, _, l1In_fn s 0 (g.1 - 1), rfl, trivial, zW, Nx.mk ?_⟩; conv => whnf)|(refine ⟨_, [], _, [], _, _, l1In_fn d 1 8, rfl, trivial, zW, Nx.mk ?_⟩; conv => whnf))  | (refine zK (fun hs => ?_) (fun hs => ?_) <;> ((try simp only [Ct.len] at hs); revert hs; intro _; conv => whnf)) | (refine zI (fun _ => ?_) (fun _ => ?_)<;> conv => whnf)|((first|refine zA ?_|refine zB ?_|refine zC ?_|refine zD ?_|refine zE ?_|refine zF ?_|refine zG ?_|fail); conv => whnf)|(refine zJ (fun _ => ?_) ?_<;> conv => whnf)|((first | refine condN Tryz.underlying4 (Nx.mk ?_) | refine zH ?_ | refine Nx.mk ?_); conv => whnf))
      (all_goals try first | contradiction | (exfalso; omega))
      all_goals
        refine ⟨[], rfl, ?_, ?_, ?_, fun _ => ?_⟩
        · ((try conv => whnf); refine ⟨rfl, by rfl, ?_, ?_⟩ <;> ((repeat' ((try conv => whnf); (first|exact zU|refine And.intro ?_ ?_|exact fun _ _ _ _ => Eq.refl _|refine cellJ (fun _ _ => ?_)|(refine cellB ?_; (conv => whnf); refine And.intro ?_ ?_)|exact zV|fail))) <;> (try conv => whnf)))
        all_goals ((repeat' ((try conv => whnf); (first|exact zU|refine And.intro ?_ ?_|exact fun _ _ _ _ => Eq.refl _|refine cellJ (fun _ _ => ?_)|(refine cellB ?_; (conv => whnf); refine And.intro ?_ ?_)|exact zV|fail))) <;> (try conv => whnf))
end Go.Proofs.YtbepgedckfhifaaGreat
