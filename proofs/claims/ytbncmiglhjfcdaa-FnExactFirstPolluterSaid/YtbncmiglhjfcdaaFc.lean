/-
  Marks written into slices of integers, and found again.
-/
import Derived.Test.YtbncmiglhjfcdaaFb
namespace Go.Proofs.Ytbncmiglhjfcdaa
set_option linter.unusedVariables false
set_option linter.unusedSimpArgs false
set_option maxRecDepth 100000
set_option maxHeartbeats 4000000
attribute [local irreducible] Fn
/-- k, k + 1, .. -/
def marks (k : Int) (n : Nat) : List Int := (List.range n).map fun i : Nat => k + (i : Int)
theorem marks_len (k : Int) (n : Nat) : (marks k n).length = n := by simp [marks]
theorem marks_zero (k : Int) : marks k 0 = [] := rfl
theorem marks_succ (k : Int) (n : Nat) : marks k (n + 1) = marks k n ++ [k + (n : Int)] := by simp [marks, List.range_succ]
theorem marks_getD {k : Int} {n i : Nat} (h : i < n) : (marks k n).getD i 0 = k + (i : Int) := by simp [marks, List.getD_eq_getElem?_getD, h]
theorem marks_set {k : Int} {xs : List Int} {i : Nat} (h : i < xs.length) : (marks k i ++ xs.drop i).set i (k + (i : Int)) = marks k (i + 1) ++ xs.drop (i + 1) := by
  rw [List.set_append_right _ _ (by simp [marks]), marks_len, Nat.sub_self, List.drop_eq_getElem_cons h, List.set_cons_zero, marks_succ, List.append_assoc]
  rfl
theorem markIntS_fn (xs : List Int) (k : Int) (h0 : 0 ≤ k) (h1 : k ≤ 1099511627776) (h : xs.length ≤ 4194304) : Fn Try.prog 72 true (.cons (.os (rt 0)) (.cons (.I k) .nil)) [(0, .row 3 (.ints .i64 xs))] (.I (k + xs.length)) [(0, .row 3 (.ints .i64 (marks k xs.length)))] := by
  (refine Fn_of tysOk Try.func72 rfl rfl (by simp [AV.len, Try.f72]) ⟨?_⟩; conv => whnf)
  (repeat' first | (refine splitD (fun hs => Nx.mk ?_) (fun hs => Nx.mk ?_) <;> ((try simp only [Ct.len] at hs); revert hs; intro _; conv => whnf)) | (refine splitB (fun _ => Nx.mk ?_) (fun _ => Nx.mk ?_) <;> conv => whnf) | (refine idxNat (by (first | exact trivial | assumption | omega | (simp only [inK, lenR] at *; omega) | (simp; done) | fail)) (Nx.mk ?_); conv => whnf) | (refine idxPred (by omega) (by (first | exact trivial | assumption | omega | (simp only [inK, lenR] at *; omega) | (simp; done) | fail)) (Nx.mk ?_); conv => whnf) | (refine idxSucc (by (first | exact trivial | assumption | omega | (simp only [inK, lenR] at *; omega) | (simp; done) | fail)) (Nx.mk ?_); conv => whnf) | (refine idxTo (by omega) (by (first | exact trivial | assumption | omega | (simp only [inK, lenR] at *; omega) | (simp; done) | fail)) (Nx.mk ?_); conv => whnf) | (refine mkNat (by omega) (by omega) (Nx.mk ?_); conv => whnf) | (refine ar64 (by omega) (Nx.mk ?_); conv => whnf) | (refine ar_in (by (first | exact trivial | assumption | omega | (simp only [inK, lenR] at *; omega) | (simp; done) | fail)) (Nx.mk ?_); conv => whnf) | (refine nilQ (fun _ => Nx.mk ?_) (Nx.mk ?_) <;> conv => whnf) | (refine condN Try.underlying4 (Nx.mk ?_); conv => whnf) | (refine condN (by (first | exact trivial | assumption | omega | (simp only [inK, lenR] at *; omega) | (simp; done) | fail)) (Nx.mk ?_); conv => whnf) | (refine Nx.mk ?_; conv => whnf))
  refine loopI tysOk [] (fun i : Nat => [(1, .I (k + (i : Int))), (5, .I i)]) (fun i => [(0, some (.row 3 (.ints .i64 (marks k i ++ xs.drop i))))]) (· ≤ xs.length) (fun i => xs.length - i) 0 (Nat.zero_le _) ?_ ?_
  · ((try conv => whnf); refine ⟨rfl, by rfl, ?_, ?_⟩ <;> ((repeat' ((try conv => whnf); (first | exact trivial | exact Eq.refl _ | exact Or.inl (Eq.refl _) | refine And.intro ?_ ?_ | exact fun _ _ _ _ => Eq.refl _ | refine cellJ (fun _ _ => ?_) | (refine cellB ?_; (conv => whnf); refine And.intro ?_ ?_) | exact Nat.le_of_ble_eq_true (Eq.refl true) | exact ⟨_, _, Eq.refl _, Eq.refl _⟩ | fail))) <;> (try conv => whnf)))
    all_goals simp
  · intro i hi
    have hl : (marks k i ++ xs.drop i).length = xs.length := by simp [marks_len]; omega
    (repeat' first | (refine splitD (fun hs => Nx.mk ?_) (fun hs => Nx.mk ?_) <;> ((try simp only [Ct.len] at hs); revert hs; intro _; conv => whnf)) | (refine splitB (fun _ => Nx.mk ?_) (fun _ => Nx.mk ?_) <;> conv => whnf) | (refine idxNat (by (first | exact trivial | assumption | omega | (simp only [inK, lenR] at *; omega) | (simp; done) | fail)) (Nx.mk ?_); conv => whnf) | (refine idxPred (by omega) (by (first | exact trivial | assumption | omega | (simp only [inK, lenR] at *; omega) | (simp; done) | fail)) (Nx.mk ?_); conv => whnf) | (refine idxSucc (by (first | exact trivial | assumption | omega | (simp only [inK, lenR] at *; omega) | (simp; done) | fail)) (Nx.mk ?_); conv => whnf) | (refine idxTo (by omega) (by (first | exact trivial | assumption | omega | (simp only [inK, lenR] at *; omega) | (simp; done) | fail)) (Nx.mk ?_); conv => whnf) | (refine mkNat (by omega) (by omega) (Nx.mk ?_); conv => whnf) | (refine ar64 (by omega) (Nx.mk ?_); conv => whnf) | (refine ar_in (by (first | exact trivial | assumption | omega | (simp only [inK, lenR] at *; omega) | (simp; done) | fail)) (Nx.mk ?_); conv => whnf) | (refine nilQ (fun _ => Nx.mk ?_) (Nx.mk ?_) <;> conv => whnf) | (refine condN Try.underlying4 (Nx.mk ?_); conv => whnf) | (refine condN (by (first | exact trivial | assumption | omega | (simp only [inK, lenR] at *; omega) | (simp; done) | fail)) (Nx.mk ?_); conv => whnf) | (refine Nx.mk ?_; conv => whnf))
    · refine ⟨i + 1, by omega, by omega, ?_⟩
      ((try conv => whnf); refine ⟨rfl, by rfl, ?_, ?_⟩ <;> ((repeat' ((try conv => whnf); (first | exact trivial | exact Eq.refl _ | exact Or.inl (Eq.refl _) | refine And.intro ?_ ?_ | exact fun _ _ _ _ => Eq.refl _ | refine cellJ (fun _ _ => ?_) | (refine cellB ?_; (conv => whnf); refine And.intro ?_ ?_) | exact Nat.le_of_ble_eq_true (Eq.refl true) | exact ⟨_, _, Eq.refl _, Eq.refl _⟩ | fail))) <;> (try conv => whnf)))
      · omega
      · exact marks_set (by omega)
    · have e : i = xs.length := by omega
      subst e
      refine ⟨[], rfl, ?_, ?_, ?_, fun _ => ?_⟩
      · ((try conv => whnf); refine ⟨rfl, by rfl, ?_, ?_⟩ <;> ((repeat' ((try conv => whnf); (first | exact trivial | exact Eq.refl _ | exact Or.inl (Eq.refl _) | refine And.intro ?_ ?_ | exact fun _ _ _ _ => Eq.refl _ | refine cellJ (fun _ _ => ?_) | (refine cellB ?_; (conv => whnf); refine And.intro ?_ ?_) | exact Nat.le_of_ble_eq_true (Eq.refl true) | exact ⟨_, _, Eq.refl _, Eq.refl _⟩ | fail))) <;> (try conv => whnf)))
        simp
      all_goals ((repeat' ((try conv => whnf); (first | exact trivial | exact Eq.refl _ | exact Or.inl (Eq.refl _) | refine And.intro ?_ ?_ | exact fun _ _ _ _ => Eq.refl _ | refine cellJ (fun _ _ => ?_) | (refine cellB ?_; (conv => whnf); refine And.intro ?_ ?_) | exact Nat.le_of_ble_eq_true (Eq.refl true) | exact ⟨_, _, Eq.refl _, Eq.refl _⟩ | fail))) <;> (try conv => whnf))
end Go.Proofs.Ytbncmiglhjfcdaa
