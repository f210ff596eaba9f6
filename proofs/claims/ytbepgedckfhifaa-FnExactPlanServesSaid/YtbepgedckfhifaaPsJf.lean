/-
  What a node has to combine, of both.
-/
import Derived.Test.YtbepgedckfhifaaPsJd
namespace Go.Proofs.Ytbepgedckfhifaa
set_option linter.unusedVariables false
set_option linter.unusedSimpArgs false
set_option maxRecDepth 100000
set_option maxHeartbeats 4000000
attribute [local irreducible] Fn
attribute [local irreducible] insN insP eTo eFrom idL
theorem sIns_fn (g : Gr) (E : EdgePlanS_T) (s a : Int) (d : Nat) (hg : g.2.1.length ≤ 20) (hl : E.length = g.2.1.length) (hE : PlE d E) (hd : d ≤ 40) : Fn Try.prog 58 true (.cons (GrA g) (.cons (.rs false E.length 1 (cellsA EdgePlan_R E)) (.cons (.I s) (.cons (.I a) (.cons (.I d) .nil))))) [] (.os (rt 16)) [(16, .row 60 (.tab (inL g E s a d).length 1 (cellsA ints_O_i64 (inL g E s a d))))] := by
  have ht := sTo_fn g a (by omega)
  by_cases hs : a = s
  · have ci := sId_fn d hd
    rw [inL_yes hs, idL_len]
    (refine Fn_of tysOk Try.func58 rfl rfl (by simp [AV.len, Try.f58]) ⟨?_⟩; conv => whnf)
    (repeat' first | ((with_reducible show ∃ _ : Bool, _); first | (refine ⟨_, [], _, [], _, _, ci, rfl, trivial, ?_, Nx.mk ?_⟩; (focus (((repeat' ((try conv => whnf); (first|exact trivial|exact Eq.refl _|exact Or.inl (Eq.refl _)|refine And.intro ?_ ?_|exact fun _ _ _ _ => Eq.refl _|refine cellJ (fun _ _ => ?_)|(refine cellB ?_; (conv => whnf); refine And.intro ?_ ?_)|exact Nat.le_of_ble_eq_true (Eq.refl true)|exact ⟨_, _, Eq.refl _, Eq.refl _⟩|fail))) <;> (try conv => whnf)); done)); conv => whnf))  | (refine splitD (fun hs => Nx.mk ?_) (fun hs => Nx.mk ?_) <;> ((try simp only [Ct.len] at hs); revert hs; intro _; conv => whnf)) | (refine splitB (fun _ => Nx.mk ?_) (fun _ => Nx.mk ?_) <;> conv => whnf) | (refine idxNat (by (first|exact trivial|assumption|omega|(simp only [inK, lenR] at *; omega)|(simp; done)|fail)) (Nx.mk ?_); conv => whnf)|(refine idxPred (by omega) (by (first|exact trivial|assumption|omega|(simp only [inK, lenR] at *; omega)|(simp; done)|fail)) (Nx.mk ?_); conv => whnf)|(refine idxSucc (by (first|exact trivial|assumption|omega|(simp only [inK, lenR] at *; omega)|(simp; done)|fail)) (Nx.mk ?_); conv => whnf)|(refine idxTo (by omega) (by (first|exact trivial|assumption|omega|(simp only [inK, lenR] at *; omega)|(simp; done)|fail)) (Nx.mk ?_); conv => whnf)|(refine mkNat (by omega) (by omega) (Nx.mk ?_); conv => whnf)|(refine ar64 (by omega) (Nx.mk ?_); conv => whnf)|(refine ar_in (by (first|exact trivial|assumption|omega|(simp only [inK, lenR] at *; omega)|(simp; done)|fail)) (Nx.mk ?_); conv => whnf)|(refine nilQ (fun _ => Nx.mk ?_) (Nx.mk ?_) <;> conv => whnf) | (refine condN Try.underlying4 (Nx.mk ?_); conv => whnf)|(refine condN (by (first|exact trivial|assumption|omega|(simp only [inK, lenR] at *; omega)|(simp; done)|fail)) (Nx.mk ?_); conv => whnf)|(refine Nx.mk ?_; conv => whnf))
    (all_goals try first | contradiction | (exfalso; omega))
    all_goals
      refine ⟨[(16, nm 18)], rfl, ?_, ?_, ?_, fun _ => ?_⟩
      · ((try conv => whnf); refine ⟨rfl, by rfl, ?_, ?_⟩ <;> ((repeat' ((try conv => whnf); (first|exact trivial|exact Eq.refl _|exact Or.inl (Eq.refl _)|refine And.intro ?_ ?_|exact fun _ _ _ _ => Eq.refl _|refine cellJ (fun _ _ => ?_)|(refine cellB ?_; (conv => whnf); refine And.intro ?_ ?_)|exact Nat.le_of_ble_eq_true (Eq.refl true)|exact ⟨_, _, Eq.refl _, Eq.refl _⟩|fail))) <;> (try conv => whnf)))
      all_goals ((repeat' ((try conv => whnf); (first|exact trivial|exact Eq.refl _|exact Or.inl (Eq.refl _)|refine And.intro ?_ ?_|exact fun _ _ _ _ => Eq.refl _|refine cellJ (fun _ _ => ?_)|(refine cellB ?_; (conv => whnf); refine And.intro ?_ ?_)|exact Nat.le_of_ble_eq_true (Eq.refl true)|exact ⟨_, _, Eq.refl _, Eq.refl _⟩|fail))) <;> (try conv => whnf))
  · rw [inL_no hs]
    unfold insL
    have hle := eTo_leT (g := g) (a := a)
    have hok := fun k (hk : k < (eTo g a).length) => eTo_okT hk
    (refine Fn_of tysOk Try.func58 rfl rfl (by simp [AV.len, Try.f58]) ⟨?_⟩; conv => whnf)
    (repeat' first | ((with_reducible show ∃ _ : Bool, _); first | (refine ⟨_, [], _, [], _, _, ht, rfl, trivial, ?_, Nx.mk ?_⟩; (focus (((repeat' ((try conv => whnf); (first|exact trivial|exact Eq.refl _|exact Or.inl (Eq.refl _)|refine And.intro ?_ ?_|exact fun _ _ _ _ => Eq.refl _|refine cellJ (fun _ _ => ?_)|(refine cellB ?_; (conv => whnf); refine And.intro ?_ ?_)|exact Nat.le_of_ble_eq_true (Eq.refl true)|exact ⟨_, _, Eq.refl _, Eq.refl _⟩|fail))) <;> (try conv => whnf)); done)); conv => whnf))  | (refine splitD (fun hs => Nx.mk ?_) (fun hs => Nx.mk ?_) <;> ((try simp only [Ct.len] at hs); revert hs; intro _; conv => whnf)) | (refine splitB (fun _ => Nx.mk ?_) (fun _ => Nx.mk ?_) <;> conv => whnf) | (refine idxNat (by (first|exact trivial|assumption|omega|(simp only [inK, lenR] at *; omega)|(simp; done)|fail)) (Nx.mk ?_); conv => whnf)|(refine idxPred (by omega) (by (first|exact trivial|assumption|omega|(simp only [inK, lenR] at *; omega)|(simp; done)|fail)) (Nx.mk ?_); conv => whnf)|(refine idxSucc (by (first|exact trivial|assumption|omega|(simp only [inK, lenR] at *; omega)|(simp; done)|fail)) (Nx.mk ?_); conv => whnf)|(refine idxTo (by omega) (by (first|exact trivial|assumption|omega|(simp only [inK, lenR] at *; omega)|(simp; done)|fail)) (Nx.mk ?_); conv => whnf)|(refine mkNat (by omega) (by omega) (Nx.mk ?_); conv => whnf)|(refine ar64 (by omega) (Nx.mk ?_); conv => whnf)|(refine ar_in (by (first|exact trivial|assumption|omega|(simp only [inK, lenR] at *; omega)|(simp; done)|fail)) (Nx.mk ?_); conv => whnf)|(refine nilQ (fun _ => Nx.mk ?_) (Nx.mk ?_) <;> conv => whnf) | (refine condN Try.underlying4 (Nx.mk ?_); conv => whnf)|(refine condN (by (first|exact trivial|assumption|omega|(simp only [inK, lenR] at *; omega)|(simp; done)|fail)) (Nx.mk ?_); conv => whnf)|(refine Nx.mk ?_; conv => whnf))
    (all_goals try first | contradiction | (exfalso; omega))
    generalize eTo g a = L at *
    refine loopX tysOk [nm 19, nm 38] (fun j : Nat => [(11, .os (rt (nm 19))), (13, .I j)]) (fun j => [(nm 19, some (.row 60 (.tab (insN E L j).length 1 (cellsA ints_O_i64 (insN E L j)))))]) (fun j => j ≤ L.length) (fun j => L.length - j) 0 (Nat.zero_le _) ?_ ?_
    · ((try conv => whnf); refine ⟨rfl, by rfl, ?_, ?_⟩ <;> ((repeat' ((try conv => whnf); (first|exact trivial|exact Eq.refl _|exact Or.inl (Eq.refl _)|refine And.intro ?_ ?_|exact fun _ _ _ _ => Eq.refl _|refine cellJ (fun _ _ => ?_)|(refine cellB ?_; (conv => whnf); refine And.intro ?_ ?_)|exact Nat.le_of_ble_eq_true (Eq.refl true)|exact ⟨_, _, Eq.refl _, Eq.refl _⟩|fail))) <;> (try conv => whnf)))
      all_goals first | omega | (rw [insN_zero]; rfl) | skip
    intro j hj
    have hz := insN_succ (E := E) (L := L) (j := j)
    have hb := (insN_ok hE (L := L) (j := j)).2
    by_cases hlt : j < L.length
    · obtain ⟨k0, k1⟩ := hok j hlt
      have hv8 := hE.len (L.getD j 0).toNat
      have cc := sCopy_fn (vE E (L.getD j 0).toNat) (by omega) (fun i hi => by have := (hE.vec _ i hi).1; omega)
      (repeat' first | ((with_reducible show ∃ _ : Bool, _); first | (refine ⟨_, [], _, [], _, _, cc, rfl, trivial, ?_, Nx.mk ?_⟩; (focus (((repeat' ((try conv => whnf); (first|exact trivial|exact Eq.refl _|exact Or.inl (Eq.refl _)|refine And.intro ?_ ?_|exact fun _ _ _ _ => Eq.refl _|refine cellJ (fun _ _ => ?_)|(refine cellB ?_; (conv => whnf); refine And.intro ?_ ?_)|exact Nat.le_of_ble_eq_true (Eq.refl true)|exact ⟨_, _, Eq.refl _, Eq.refl _⟩|fail))) <;> (try conv => whnf)); done)); conv => whnf)) | (refine condN (show (insN E L j).length + (vE E (L.getD j 0).toNat).length ≤ 1073741824 by omega) (Nx.mk ?_); conv => whnf)|(refine splitD (fun hs => Nx.mk ?_) (fun hs => Nx.mk ?_) <;> ((try simp only [Ct.len] at hs); revert hs; intro _; conv => whnf)) | (refine splitB (fun _ => Nx.mk ?_) (fun _ => Nx.mk ?_) <;> conv => whnf) | (refine idxNat (by (first|exact trivial|assumption|omega|(simp only [inK, lenR] at *; omega)|(simp; done)|fail)) (Nx.mk ?_); conv => whnf)|(refine idxPred (by omega) (by (first|exact trivial|assumption|omega|(simp only [inK, lenR] at *; omega)|(simp; done)|fail)) (Nx.mk ?_); conv => whnf)|(refine idxSucc (by (first|exact trivial|assumption|omega|(simp only [inK, lenR] at *; omega)|(simp; done)|fail)) (Nx.mk ?_); conv => whnf)|(refine idxTo (by omega) (by (first|exact trivial|assumption|omega|(simp only [inK, lenR] at *; omega)|(simp; done)|fail)) (Nx.mk ?_); conv => whnf)|(refine mkNat (by omega) (by omega) (Nx.mk ?_); conv => whnf)|(refine ar64 (by omega) (Nx.mk ?_); conv => whnf)|(refine ar_in (by (first|exact trivial|assumption|omega|(simp only [inK, lenR] at *; omega)|(simp; done)|fail)) (Nx.mk ?_); conv => whnf)|(refine nilQ (fun _ => Nx.mk ?_) (Nx.mk ?_) <;> conv => whnf) | (refine condN Try.underlying4 (Nx.mk ?_); conv => whnf)|(refine condN (by (first|exact trivial|assumption|omega|(simp only [inK, lenR] at *; omega)|(simp; done)|fail)) (Nx.mk ?_); conv => whnf)|(refine Nx.mk ?_; conv => whnf))
      (all_goals try first | contradiction | (exfalso; omega))
      refine ⟨j + 1, by omega, by omega, _, le_mvA (N := nm 19) (D := nm 38) (n0 := (insN E L j).length) (Eq.refl _) (Eq.refl _) (by decide) rfl rfl rfl ?_ ?_, ?_⟩
      · intro i hi
        simp only [Ct.kill, Ct.cell, blt_noA (Nat.le_add_right _ _), cond_false, Nat.add_sub_cancel_left]
        rfl
      · intro i hi
        rfl
      · ((try conv => whnf); refine ⟨rfl, by rfl, ?_, ?_⟩ <;> ((repeat' ((try conv => whnf); (first|exact trivial|exact Eq.refl _|exact Or.inl (Eq.refl _)|refine And.intro ?_ ?_|exact fun _ _ _ _ => Eq.refl _|refine cellJ (fun _ _ => ?_)|(refine cellB ?_; (conv => whnf); refine And.intro ?_ ?_)|exact Nat.le_of_ble_eq_true (Eq.refl true)|exact ⟨_, _, Eq.refl _, Eq.refl _⟩|fail))) <;> (try conv => whnf)))
        · rw [hz, List.length_append]; rfl
        rename_i k hk
        have hk : k < (insN E L j).length + (vE E (L.getD j 0).toNat).length := hk
        by_cases e : k < (insN E L j).length
        · simp only [blt_of e, cond_true, Ct.cell, cellsA, hz, getD_appL e]
          ((repeat' ((try conv => whnf); (first|exact trivial|exact Eq.refl _|exact Or.inl (Eq.refl _)|refine And.intro ?_ ?_|exact fun _ _ _ _ => Eq.refl _|refine cellJ (fun _ _ => ?_)|(refine cellB ?_; (conv => whnf); refine And.intro ?_ ?_)|exact Nat.le_of_ble_eq_true (Eq.refl true)|exact ⟨_, _, Eq.refl _, Eq.refl _⟩|fail))) <;> (try conv => whnf))
        · have e2 : (insN E L j).length ≤ k := by omega
          simp only [blt_noA e2, cond_false, cellsA, hz, getD_appR e2]
          ((repeat' ((try conv => whnf); (first|exact trivial|exact Eq.refl _|exact Or.inl (Eq.refl _)|refine And.intro ?_ ?_|exact fun _ _ _ _ => Eq.refl _|refine cellJ (fun _ _ => ?_)|(refine cellB ?_; (conv => whnf); refine And.intro ?_ ?_)|exact Nat.le_of_ble_eq_true (Eq.refl true)|exact ⟨_, _, Eq.refl _, Eq.refl _⟩|fail))) <;> (try conv => whnf))
    · obtain rfl : j = L.length := by omega
      (repeat' first | (refine splitD (fun hs => Nx.mk ?_) (fun hs => Nx.mk ?_) <;> ((try simp only [Ct.len] at hs); revert hs; intro _; conv => whnf)) | (refine splitB (fun _ => Nx.mk ?_) (fun _ => Nx.mk ?_) <;> conv => whnf) | (refine idxNat (by (first|exact trivial|assumption|omega|(simp only [inK, lenR] at *; omega)|(simp; done)|fail)) (Nx.mk ?_); conv => whnf)|(refine idxPred (by omega) (by (first|exact trivial|assumption|omega|(simp only [inK, lenR] at *; omega)|(simp; done)|fail)) (Nx.mk ?_); conv => whnf)|(refine idxSucc (by (first|exact trivial|assumption|omega|(simp only [inK, lenR] at *; omega)|(simp; done)|fail)) (Nx.mk ?_); conv => whnf)|(refine idxTo (by omega) (by (first|exact trivial|assumption|omega|(simp only [inK, lenR] at *; omega)|(simp; done)|fail)) (Nx.mk ?_); conv => whnf)|(refine mkNat (by omega) (by omega) (Nx.mk ?_); conv => whnf)|(refine ar64 (by omega) (Nx.mk ?_); conv => whnf)|(refine ar_in (by (first|exact trivial|assumption|omega|(simp only [inK, lenR] at *; omega)|(simp; done)|fail)) (Nx.mk ?_); conv => whnf)|(refine nilQ (fun _ => Nx.mk ?_) (Nx.mk ?_) <;> conv => whnf) | (refine condN Try.underlying4 (Nx.mk ?_); conv => whnf)|(refine condN (by (first|exact trivial|assumption|omega|(simp only [inK, lenR] at *; omega)|(simp; done)|fail)) (Nx.mk ?_); conv => whnf)|(refine Nx.mk ?_; conv => whnf))
      (all_goals try first | contradiction | (exfalso; omega))
      all_goals
        refine ⟨[(16, nm 19)], rfl, ?_, ?_, ?_, fun _ => ?_⟩
        · ((try conv => whnf); refine ⟨rfl, by rfl, ?_, ?_⟩ <;> ((repeat' ((try conv => whnf); (first|exact trivial|exact Eq.refl _|exact Or.inl (Eq.refl _)|refine And.intro ?_ ?_|exact fun _ _ _ _ => Eq.refl _|refine cellJ (fun _ _ => ?_)|(refine cellB ?_; (conv => whnf); refine And.intro ?_ ?_)|exact Nat.le_of_ble_eq_true (Eq.refl true)|exact ⟨_, _, Eq.refl _, Eq.refl _⟩|fail))) <;> (try conv => whnf)))
        all_goals ((repeat' ((try conv => whnf); (first|exact trivial|exact Eq.refl _|exact Or.inl (Eq.refl _)|refine And.intro ?_ ?_|exact fun _ _ _ _ => Eq.refl _|refine cellJ (fun _ _ => ?_)|(refine cellB ?_; (conv => whnf); refine And.intro ?_ ?_)|exact Nat.le_of_ble_eq_true (Eq.refl true)|exact ⟨_, _, Eq.refl _, Eq.refl _⟩|fail))) <;> (try conv => whnf))
end Go.Proofs.Ytbepgedckfhifaa
