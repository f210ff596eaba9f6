/-
  What a node has to combine, of both.
-/
import Derived.Test.YtbepgedckfhifaaGreatFiJd
namespace Go.Proofs.YtbepgedckfhifaaGreat
set_option linter.unusedVariables false
set_option linter.unusedSimpArgs false
set_option maxRecDepth 100000
set_option maxHeartbeats 4000000
attribute [local irreducible] Fn
attribute [local irreducible] insN insP eTo eFrom idL
theorem sIns_fn (g : Gr) (E : EdgePlanS_T) (s a : Int) (d : Nat) (hg : g.2.1.length ≤ 20) (hl : E.length = g.2.1.length) (hE : PlE d E) (hd : d ≤ 40) : Fn Tryz.prog 66 true (.cons (GrA g) (.cons (.rs false E.length 1 (cellsA EdgePlan_R E)) (.cons (.I s) (.cons (.I a) (.cons (.I d) .nil))))) [] (.os (rt 16)) [(16, .row 22 (.tab (inL g E s a d).length 1 (cellsA ints_O_i64 (inL g E s a d))))] := by
  have ht := sTo_fn g a (by omega)
  by_cases hs : a = s
  · have ci := sId_fn d hd
    rw [inL_yes hs, idL_len]
    (refine Fn_of tysOk Tryz.func66 rfl rfl (by simp [AV.len, Tryz.f66]) ⟨?_⟩; conv => whnf)
    (repeat' first | ((with_reducible show ∃ _ : Bool, _); first | (refine ⟨_, [], _, [], _, _, ci, rfl, trivial, zW, Nx.mk ?_⟩; conv => whnf))  | (refine zK (fun hs => ?_) (fun hs => ?_) <;> ((try simp only [Ct.len] at hs); revert hs; intro _; conv => whnf)) | (refine zI (fun _ => ?_) (fun _ => ?_)<;> conv => whnf)|((first|refine zA ?_|refine zB ?_|refine zC ?_|refine zD ?_|refine zE ?_|refine zF ?_|refine zG ?_|fail); conv => whnf)|(refine zJ (fun _ => ?_) ?_<;> conv => whnf)|((first | refine condN Tryz.underlying4 (Nx.mk ?_) | refine zH ?_ | refine Nx.mk ?_); conv => whnf))
    (all_goals try first | contradiction | (exfalso; omega))
    all_goals
      refine ⟨[(16, nm 18)], rfl, ?_, ?_, ?_, fun _ => ?_⟩
      · ((try conv => whnf); refine ⟨rfl, by rfl, ?_, ?_⟩ <;> ((repeat' ((try conv => whnf); (first|exact zU|refine And.intro ?_ ?_|exact fun _ _ _ _ => Eq.refl _|refine cellJ (fun _ _ => ?_)|(refine cellB ?_; (conv => whnf); refine And.intro ?_ ?_)|exact zV|fail))) <;> (try conv => whnf)))
      all_goals ((repeat' ((try conv => whnf); (first|exact zU|refine And.intro ?_ ?_|exact fun _ _ _ _ => Eq.refl _|refine cellJ (fun _ _ => ?_)|(refine cellB ?_; (conv => whnf); refine And.intro ?_ ?_)|exact zV|fail))) <;> (try conv => whnf))
  · rw [inL_no hs]
    unfold insL
    have hle := eTo_leT (g := g) (a := a)
    have hok := fun k (hk : k < (eTo g a).length) => eTo_okT hk
    (refine Fn_of tysOk Tryz.func66 rfl rfl (by simp [AV.len, Tryz.f66]) ⟨?_⟩; conv => whnf)
    (repeat' first | ((with_reducible show ∃ _ : Bool, _); first | (refine ⟨_, [], _, [], _, _, ht, rfl, trivial, zW, Nx.mk ?_⟩; conv => whnf))  | (refine zK (fun hs => ?_) (fun hs => ?_) <;> ((try simp only [Ct.len] at hs); revert hs; intro _; conv => whnf)) | (refine zI (fun _ => ?_) (fun _ => ?_)<;> conv => whnf)|((first|refine zA ?_|refine zB ?_|refine zC ?_|refine zD ?_|refine zE ?_|refine zF ?_|refine zG ?_|fail); conv => whnf)|(refine zJ (fun _ => ?_) ?_<;> conv => whnf)|((first | refine condN Tryz.underlying4 (Nx.mk ?_) | refine zH ?_ | refine Nx.mk ?_); conv => whnf))
    (all_goals try first | contradiction | (exfalso; omega))
    generalize eTo g a = L at *
    refine loopX tysOk [nm 19, nm 38] (fun j : Nat => [(11, .os (rt (nm 19))), (13, .I j)]) (fun j => [(nm 19, some (.row 22 (.tab (insN E L j).length 1 (cellsA ints_O_i64 (insN E L j)))))]) (fun j => j ≤ L.length) (fun j => L.length - j) 0 (Nat.zero_le _) ?_ ?_
    · ((try conv => whnf); refine ⟨rfl, by rfl, ?_, ?_⟩ <;> ((repeat' ((try conv => whnf); (first|exact zU|refine And.intro ?_ ?_|exact fun _ _ _ _ => Eq.refl _|refine cellJ (fun _ _ => ?_)|(refine cellB ?_; (conv => whnf); refine And.intro ?_ ?_)|exact zV|fail))) <;> (try conv => whnf)))
      all_goals first | omega | (rw [insN_zero]; rfl) | skip
    intro j hj
    have hz := insN_succ (E := E) (L := L) (j := j)
    have hb := (insN_ok hE (L := L) (j := j)).2
    by_cases hlt : j < L.length
    · obtain ⟨k0, k1⟩ := hok j hlt
      have hv8 := hE.len (L.getD j 0).toNat
      have cc := sCopy_fn (vE E (L.getD j 0).toNat) (by omega) (fun i hi => by have := (hE.vec _ i hi).1; omega)
      (repeat' first | ((with_reducible show ∃ _ : Bool, _); first | (refine ⟨_, [], _, [], _, _, cc, rfl, trivial, zW, Nx.mk ?_⟩; conv => whnf)) | (refine condN (show (insN E L j).length + (vE E (L.getD j 0).toNat).length ≤ 1073741824 by omega) (Nx.mk ?_); conv => whnf)|(refine zK (fun hs => ?_) (fun hs => ?_) <;> ((try simp only [Ct.len] at hs); revert hs; intro _; conv => whnf)) | (refine zI (fun _ => ?_) (fun _ => ?_)<;> conv => whnf)|((first|refine zA ?_|refine zB ?_|refine zC ?_|refine zD ?_|refine zE ?_|refine zF ?_|refine zG ?_|fail); conv => whnf)|(refine zJ (fun _ => ?_) ?_<;> conv => whnf)|((first | refine condN Tryz.underlying4 (Nx.mk ?_) | refine zH ?_ | refine Nx.mk ?_); conv => whnf))
      (all_goals try first | contradiction | (exfalso; omega))
      refine ⟨j + 1, by omega, by omega, _, le_mvA (N := nm 19) (D := nm 38) (n0 := (insN E L j).length) (Eq.refl _) (Eq.refl _) (by decide) rfl rfl rfl ?_ ?_, ?_⟩
      · intro i hi
        simp only [Ct.kill, Ct.cell, blt_noA (Nat.le_add_right _ _), cond_false, Nat.add_sub_cancel_left]
        rfl
      · intro i hi
        rfl
      · ((try conv => whnf); refine ⟨rfl, by rfl, ?_, ?_⟩ <;> ((repeat' ((try conv => whnf); (first|exact zU|refine And.intro ?_ ?_|exact fun _ _ _ _ => Eq.refl _|refine cellJ (fun _ _ => ?_)|(refine cellB ?_; (conv => whnf); refine And.intro ?_ ?_)|exact zV|fail))) <;> (try conv => whnf)))
        · rw [hz, List.length_append]; rfl
        rename_i k hk
        have hk : k < (insN E L j).length + (vE E (L.getD j 0).toNat).length := hk
        by_cases e : k < (insN E L j).length
        · simp only [blt_of e, cond_true, Ct.cell, cellsA, hz, getD_appL e]
          ((repeat' ((try conv => whnf); (first|exact zU|refine And.intro ?_ ?_|exact fun _ _ _ _ => Eq.refl _|refine cellJ (fun _ _ => ?_)|(refine cellB ?_; (conv => whnf); refine And.intro ?_ ?_)|exact zV|fail))) <;> (try conv => whnf))
        · have e2 : (insN E L j).length ≤ k := by omega
          simp only [blt_noA e2, cond_false, cellsA, hz, getD_appR e2]
          ((repeat' ((try conv => whnf); (first|exact zU|refine And.intro ?_ ?_|exact fun _ _ _ _ => Eq.refl _|refine cellJ (fun _ _ => ?_)|(refine cellB ?_; (conv => whnf); refine And.intro ?_ ?_)|exact zV|fail))) <;> (try conv => whnf))
    · obtain rfl : j = L.length := by omega
      (repeat' first | (refine zK (fun hs => ?_) (fun hs => ?_) <;> ((try simp only [Ct.len] at hs); revert hs; intro _; conv => whnf)) | (refine zI (fun _ => ?_) (fun _ => ?_)<;> conv => whnf)|((first|refine zA ?_|refine zB ?_|refine zC ?_|refine zD ?_|refine zE ?_|refine zF ?_|refine zG ?_|fail); conv => whnf)|(refine zJ (fun _ => ?_) ?_<;> conv => whnf)|((first | refine condN Tryz.underlying4 (Nx.mk ?_) | refine zH ?_ | refine Nx.mk ?_); conv => whnf))
      (all_goals try first | contradiction | (exfalso; omega))
      all_goals
        refine ⟨[(16, nm 19)], rfl, ?_, ?_, ?_, fun _ => ?_⟩
        · ((try conv => whnf); refine ⟨rfl, by rfl, ?_, ?_⟩ <;> ((repeat' ((try conv => whnf); (first|exact zU|refine And.intro ?_ ?_|exact fun _ _ _ _ => Eq.refl _|refine cellJ (fun _ _ => ?_)|(refine cellB ?_; (conv => whnf); refine And.intro ?_ ?_)|exact zV|fail))) <;> (try conv => whnf)))
        all_goals ((repeat' ((try conv => whnf); (first|exact zU|refine And.intro ?_ ?_|exact fun _ _ _ _ => Eq.refl _|refine cellJ (fun _ _ => ?_)|(refine cellB ?_; (conv => whnf); refine And.intro ?_ ?_)|exact zV|fail))) <;> (try conv => whnf))
theorem iVTo_fn (g : Gr) (E : EdgePlanS_T) (a : Int) (d : Int) (hg : g.2.1.length ≤ 20) (hl : E.length = g.2.1.length) (hE : ∀ e, (vE E e).length ≤ 8) : Fn Tryz.prog 78 true (.cons (.agg (.cons (.I d) (.cons (.os (rt 0)) .nil))) (.cons (GrA g) (.cons (.I a) .nil))) [(0, .row 107 (.tab E.length 1 (cellsA EdgePlan_O E)))] (.os (rt 16))
    [(0, .row 107 (.tab E.length 1 (cellsA EdgePlan_O E))), (16, .row 22 (.tab (insP E (eTo g a) (eTo g a).length).length 1 (fun i _ => .os ⟨0, [(((insP E (eTo g a) (eTo g a).length).getD i (0, 0)).1, 0), (((insP E (eTo g a) (eTo g a).length).getD i (0, 0)).2, 0)]⟩)))] := by
  have ht := iTo_fn g a (by omega)
  have hle := eTo_leT (g := g) (a := a)
  have hok := fun k (hk : k < (eTo g a).length) => eTo_okT hk
  have hb : ∀ j, (insP E (eTo g a) j).length ≤ 8 * j := fun j => by
    induction j with
    | zero => exact Nat.le_of_eq (by rw [insP_zero]; rfl)
    | succ j ih =>
      rw [insP_succ]
      have := hE ((eTo g a).getD j 0).toNat
      simp only [List.length_append, List.length_map, List.length_range]
      omega
  (refine Fn_of tysOk Tryz.func78 rfl rfl (by simp [AV.len, Tryz.f78]) ⟨?_⟩; conv => whnf)
  (repeat' first | ((with_reducible show ∃ _ : Bool, _); first | (refine ⟨_, [], _, [], _, _, ht, rfl, trivial, zW, Nx.mk ?_⟩; conv => whnf))  | (refine zK (fun hs => ?_) (fun hs => ?_) <;> ((try simp only [Ct.len] at hs); revert hs; intro _; conv => whnf)) | (refine zI (fun _ => ?_) (fun _ => ?_)<;> conv => whnf)|((first|refine zA ?_|refine zB ?_|refine zC ?_|refine zD ?_|refine zE ?_|refine zF ?_|refine zG ?_|fail); conv => whnf)|(refine zJ (fun _ => ?_) ?_<;> conv => whnf)|((first | refine condN Tryz.underlying4 (Nx.mk ?_) | refine zH ?_ | refine Nx.mk ?_); conv => whnf))
  (all_goals try first | contradiction | (exfalso; omega))
  generalize eTo g a = L at *
  refine loopI tysOk [nm 25] (fun j : Nat => [(7, .os (rt (nm 25))), (14, .I j)]) (fun j => [(nm 25, some (.row 22 (.tab (insP E L j).length 1 (fun i _ => .os ⟨0, [(((insP E L j).getD i (0, 0)).1, 0), (((insP E L j).getD i (0, 0)).2, 0)]⟩))))]) (fun j => j ≤ L.length) (fun j => L.length - j) 0 (Nat.zero_le _) ?_ ?_
  · ((try conv => whnf); refine ⟨rfl, by rfl, ?_, ?_⟩ <;> ((repeat' ((try conv => whnf); (first|exact zU|refine And.intro ?_ ?_|exact fun _ _ _ _ => Eq.refl _|refine cellJ (fun _ _ => ?_)|(refine cellB ?_; (conv => whnf); refine And.intro ?_ ?_)|exact zV|fail))) <;> (try conv => whnf)))
    all_goals first | omega | (rw [insP_zero]; rfl) | skip
  intro j hj
  have hz := insP_succ (E := E) (L := L) (j := j)
  have hbj := hb j
  by_cases hlt : j < L.length
  · obtain ⟨k0, k1⟩ := hok j hlt
    have hv8 := hE (L.getD j 0).toNat
    (repeat' first | (refine condN (show (insP E L j).length + (vE E (L.getD j 0).toNat).length ≤ 1073741824 by omega) (Nx.mk ?_); conv => whnf)|(refine zK (fun hs => ?_) (fun hs => ?_) <;> ((try simp only [Ct.len] at hs); revert hs; intro _; conv => whnf)) | (refine zI (fun _ => ?_) (fun _ => ?_)<;> conv => whnf)|((first|refine zA ?_|refine zB ?_|refine zC ?_|refine zD ?_|refine zE ?_|refine zF ?_|refine zG ?_|fail); conv => whnf)|(refine zJ (fun _ => ?_) ?_<;> conv => whnf)|((first | refine condN Tryz.underlying4 (Nx.mk ?_) | refine zH ?_ | refine Nx.mk ?_); conv => whnf))
    (all_goals try first | contradiction | (exfalso; omega))
    refine ⟨j + 1, by omega, by omega, ?_⟩
    ((try conv => whnf); refine ⟨rfl, by rfl, ?_, ?_⟩ <;> ((repeat' ((try conv => whnf); (first|exact zU|refine And.intro ?_ ?_|exact fun _ _ _ _ => Eq.refl _|refine cellJ (fun _ _ => ?_)|(refine cellB ?_; (conv => whnf); refine And.intro ?_ ?_)|exact zV|fail))) <;> (try conv => whnf)))
    · rw [hz, List.length_append, List.length_map, List.length_range]
    all_goals
      rename_i k hk
      have hk : k < (insP E L j).length + (vE E (L.getD j 0).toNat).length := hk
      by_cases e : k < (insP E L j).length
      · simp only [blt_of e, cond_true, Ct.cell, cellsA, hz, getD_appL e]
        ((repeat' ((try conv => whnf); (first|exact zU|refine And.intro ?_ ?_|exact fun _ _ _ _ => Eq.refl _|refine cellJ (fun _ _ => ?_)|(refine cellB ?_; (conv => whnf); refine And.intro ?_ ?_)|exact zV|fail))) <;> (try conv => whnf))
        all_goals trace_state
      · have e2 : (insP E L j).length ≤ k := by omega
        have e3 := pair_at (n := (vE E (L.getD j 0).toNat).length) (k := k - (insP E L j).length) (e := (L.getD j 0).toNat) (z := (0, 0)) (by omega)
        simp only [blt_noA e2, cond_false, Ct.cell, cellsA, hz, getD_appR e2, e3]
        ((repeat' ((try conv => whnf); (first|exact zU|refine And.intro ?_ ?_|exact fun _ _ _ _ => Eq.refl _|refine cellJ (fun _ _ => ?_)|(refine cellB ?_; (conv => whnf); refine And.intro ?_ ?_)|exact zV|fail))) <;> (try conv => whnf))
        all_goals trace_state
  · obtain rfl : j = L.length := by omega
    (repeat' first | (refine zK (fun hs => ?_) (fun hs => ?_) <;> ((try simp only [Ct.len] at hs); revert hs; intro _; conv => whnf)) | (refine zI (fun _ => ?_) (fun _ => ?_)<;> conv => whnf)|((first|refine zA ?_|refine zB ?_|refine zC ?_|refine zD ?_|refine zE ?_|refine zF ?_|refine zG ?_|fail); conv => whnf)|(refine zJ (fun _ => ?_) ?_<;> conv => whnf)|((first | refine condN Tryz.underlying4 (Nx.mk ?_) | refine zH ?_ | refine Nx.mk ?_); conv => whnf))
    (all_goals try first | contradiction | (exfalso; omega))
    all_goals
      refine ⟨[(16, nm 25)], rfl, ?_, ?_, ?_, fun _ => ?_⟩
      · ((try conv => whnf); refine ⟨rfl, by rfl, ?_, ?_⟩ <;> ((repeat' ((try conv => whnf); (first|exact zU|refine And.intro ?_ ?_|exact fun _ _ _ _ => Eq.refl _|refine cellJ (fun _ _ => ?_)|(refine cellB ?_; (conv => whnf); refine And.intro ?_ ?_)|exact zV|fail))) <;> (try conv => whnf)))
      all_goals ((repeat' ((try conv => whnf); (first|exact zU|refine And.intro ?_ ?_|exact fun _ _ _ _ => Eq.refl _|refine cellJ (fun _ _ => ?_)|(refine cellB ?_; (conv => whnf); refine And.intro ?_ ?_)|exact zV|fail))) <;> (try conv => whnf))
end Go.Proofs.YtbepgedckfhifaaGreat
