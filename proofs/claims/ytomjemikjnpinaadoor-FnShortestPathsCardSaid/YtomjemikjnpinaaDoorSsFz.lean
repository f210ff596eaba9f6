/-
  Bytes opened.
-/
import Derived.Test.YtomjemikjnpinaaDoorSsFf
import Derived.Test.YtomjemikjnpinaaDoorSsFo
namespace Go.Proofs.YtomjemikjnpinaaDoor
set_option linter.unusedVariables false
set_option linter.unusedSimpArgs false
set_option maxRecDepth 100000
set_option maxHeartbeats 4000000
attribute [local irreducible] Fn
theorem opn_byteS : Opn Tryd.prog 22 1 (fun xs : List Int => xs.length ≤ maxLen ∧ ∀ x ∈ xs, (Lit.int .u8 x).wf = true) (fun xs => .cons (.ri false .u8 xs) .nil) := opn_ints Tryd.underlying22 Tryd.underlying5 (by kernel_rfl)
def Byt (xs : List Int) : Prop := ∀ i, i < xs.length → 0 ≤ xs.getD i 0 ∧ xs.getD i 0 < 256
theorem byt_of {xs : List Int} (h : ∀ x ∈ xs, (Lit.int .u8 x).wf = true) : Byt xs := fun i hi => by
  have h1 := h (xs.getD i 0) (by rw [List.getD_eq_getElem?_getD, List.getElem?_eq_getElem hi]; exact List.getElem_mem hi)
  simp only [Lit.wf, IntKind.min, IntKind.max, IntKind.bits, IntKind.signed, Bool.and_eq_true, decide_eq_true_eq] at h1
  simp at h1
  simp
  omega
/-- A byte of the input, or what stands for it. -/
def atC (code : List Int) (i : Nat) : Int := if i < code.length then code.getD i 0 else ((i : Int) * 31 + (code.length : Int) * 7) % 256
theorem big_fn (code : List Int) : Fn Tryd.prog 5 true (.cons (.ri false .u8 code) .nil) [] (.b (decide (1048576 < code.length))) [] := by
  (refine Fn_of tysOk Tryd.func5 rfl rfl (by simp [AV.len, Tryd.f5]) ⟨?_⟩; conv => whnf)
  (repeat' first | (refine splitD (fun hs => Nx.mk ?_) (fun hs => Nx.mk ?_) <;> ((try simp only [Ct.len] at hs); revert hs; intro _; conv => whnf)) | (refine splitB (fun _ => Nx.mk ?_) (fun _ => Nx.mk ?_) <;> conv => whnf) | (refine idxNat (by (first | exact trivial | assumption | omega | (simp only [inK, lenR] at *; omega) | (simp; done) | fail)) (Nx.mk ?_); conv => whnf) | (refine idxPred (by omega) (by (first | exact trivial | assumption | omega | (simp only [inK, lenR] at *; omega) | (simp; done) | fail)) (Nx.mk ?_); conv => whnf) | (refine idxSucc (by (first | exact trivial | assumption | omega | (simp only [inK, lenR] at *; omega) | (simp; done) | fail)) (Nx.mk ?_); conv => whnf) | (refine idxTo (by omega) (by (first | exact trivial | assumption | omega | (simp only [inK, lenR] at *; omega) | (simp; done) | fail)) (Nx.mk ?_); conv => whnf) | (refine mkNat (by omega) (by omega) (Nx.mk ?_); conv => whnf) | (refine ar64 (by omega) (Nx.mk ?_); conv => whnf) | (refine ar_in (by (first | exact trivial | assumption | omega | (simp only [inK, lenR] at *; omega) | (simp; done) | fail)) (Nx.mk ?_); conv => whnf) | (refine nilQ (fun _ => Nx.mk ?_) (Nx.mk ?_) <;> conv => whnf) | (refine condN Tryd.underlying4 (Nx.mk ?_); conv => whnf) | (refine condN (by (first | exact trivial | assumption | omega | (simp only [inK, lenR] at *; omega) | (simp; done) | fail)) (Nx.mk ?_); conv => whnf) | (refine Nx.mk ?_; conv => whnf))
  all_goals ((refine ⟨[], rfl, ⟨rfl, rfl, trivial, trivial⟩, ?_, ⟨?_, trivial⟩, fun _ => ⟨?_, trivial⟩⟩ <;> ((repeat' ((try conv => whnf); (first | exact trivial | exact Eq.refl _ | exact Or.inl (Eq.refl _) | refine And.intro ?_ ?_ | exact fun _ _ _ _ => Eq.refl _ | refine cellJ (fun _ _ => ?_) | (refine cellB ?_; (conv => whnf); refine And.intro ?_ ?_) | exact Nat.le_of_ble_eq_true (Eq.refl true) | exact ⟨_, _, Eq.refl _, Eq.refl _⟩ | fail))) <;> (try conv => whnf))); (first | exact Eq.refl _ | exact decide_eq_true (by assumption) | exact decide_eq_false (by assumption) | exact (decide_eq_true (by omega)).symm | exact (decide_eq_false (by omega)).symm | exact decide_eq_true (by omega) | exact decide_eq_false (by omega)))
def hasJ (xs : List Int) (x : Int) : Bool := xs.any fun y => decide (y = x)
theorem hasJ_iff {xs : List Int} {x : Int} : hasJ xs x = true ↔ x ∈ xs := by
  unfold hasJ
  rw [List.any_eq_true]
  exact ⟨fun ⟨y, hy, e⟩ => by rw [← of_decide_eq_true e]; exact hy, fun h => ⟨x, h, decide_eq_true rfl⟩⟩
theorem hasJ_yes {xs : List Int} {x : Int} (h : x ∈ xs) : hasJ xs x = true := hasJ_iff.2 h
theorem hasJ_no {xs : List Int} {x : Int} (h : x ∉ xs) : hasJ xs x = false := by
  cases hb : hasJ xs x with
  | false => rfl
  | true => exact absurd (hasJ_iff.1 hb) h
theorem lContains_fn (xs : List Int) (x : Int) (h : xs.length ≤ 4194304) : Fn Tryd.prog 8 true (.cons (.ri false .i64 xs) (.cons (.I x) .nil)) [] (.b (hasJ xs x)) [] := by
  (refine Fn_of tysOk Tryd.func8 rfl rfl (by simp [AV.len, Tryd.f8]) ⟨?_⟩; conv => whnf)
  refine loopI tysOk [] (fun i : Nat => [(5, .I i)]) (fun i => []) (fun i => i ≤ xs.length ∧ ∀ k, k < i → xs.getD k 0 ≠ x) (fun i => xs.length - i) 0 ⟨Nat.zero_le _, fun k hk => absurd hk (by omega)⟩ ?_ ?_
  · ((try conv => whnf); refine ⟨rfl, by rfl, ?_, ?_⟩ <;> ((repeat' ((try conv => whnf); (first | exact trivial | exact Eq.refl _ | exact Or.inl (Eq.refl _) | refine And.intro ?_ ?_ | exact fun _ _ _ _ => Eq.refl _ | refine cellJ (fun _ _ => ?_) | (refine cellB ?_; (conv => whnf); refine And.intro ?_ ?_) | exact Nat.le_of_ble_eq_true (Eq.refl true) | exact ⟨_, _, Eq.refl _, Eq.refl _⟩ | fail))) <;> (try conv => whnf)))
  · rintro i ⟨hi, hall⟩
    (repeat' first | (refine splitD (fun hs => Nx.mk ?_) (fun hs => Nx.mk ?_) <;> ((try simp only [Ct.len] at hs); revert hs; intro _; conv => whnf)) | (refine splitB (fun _ => Nx.mk ?_) (fun _ => Nx.mk ?_) <;> conv => whnf) | (refine idxNat (by (first | exact trivial | assumption | omega | (simp only [inK, lenR] at *; omega) | (simp; done) | fail)) (Nx.mk ?_); conv => whnf) | (refine idxPred (by omega) (by (first | exact trivial | assumption | omega | (simp only [inK, lenR] at *; omega) | (simp; done) | fail)) (Nx.mk ?_); conv => whnf) | (refine idxSucc (by (first | exact trivial | assumption | omega | (simp only [inK, lenR] at *; omega) | (simp; done) | fail)) (Nx.mk ?_); conv => whnf) | (refine idxTo (by omega) (by (first | exact trivial | assumption | omega | (simp only [inK, lenR] at *; omega) | (simp; done) | fail)) (Nx.mk ?_); conv => whnf) | (refine mkNat (by omega) (by omega) (Nx.mk ?_); conv => whnf) | (refine ar64 (by omega) (Nx.mk ?_); conv => whnf) | (refine ar_in (by (first | exact trivial | assumption | omega | (simp only [inK, lenR] at *; omega) | (simp; done) | fail)) (Nx.mk ?_); conv => whnf) | (refine nilQ (fun _ => Nx.mk ?_) (Nx.mk ?_) <;> conv => whnf) | (refine condN Tryd.underlying4 (Nx.mk ?_); conv => whnf) | (refine condN (by (first | exact trivial | assumption | omega | (simp only [inK, lenR] at *; omega) | (simp; done) | fail)) (Nx.mk ?_); conv => whnf) | (refine Nx.mk ?_; conv => whnf))
    · (refine ⟨[], rfl, ⟨rfl, rfl, trivial, trivial⟩, ?_, ⟨?_, trivial⟩, fun _ => ⟨?_, trivial⟩⟩ <;> ((repeat' ((try conv => whnf); (first | exact trivial | exact Eq.refl _ | exact Or.inl (Eq.refl _) | refine And.intro ?_ ?_ | exact fun _ _ _ _ => Eq.refl _ | refine cellJ (fun _ _ => ?_) | (refine cellB ?_; (conv => whnf); refine And.intro ?_ ?_) | exact Nat.le_of_ble_eq_true (Eq.refl true) | exact ⟨_, _, Eq.refl _, Eq.refl _⟩ | fail))) <;> (try conv => whnf)))
      rename_i h1 h2
      have hi' : i < xs.length := by omega
      refine (hasJ_yes ?_).symm
      rw [← h2, List.getD_eq_getElem?_getD, List.getElem?_eq_getElem hi']
      exact List.getElem_mem hi'
    · rename_i h1
      refine ⟨i + 1, ⟨by omega, fun k hk => ?_⟩, by omega, ?_⟩
      · by_cases e : k = i
        · rw [e]; exact h1
        · exact hall k (by omega)
      · ((try conv => whnf); refine ⟨rfl, by rfl, ?_, ?_⟩ <;> ((repeat' ((try conv => whnf); (first | exact trivial | exact Eq.refl _ | exact Or.inl (Eq.refl _) | refine And.intro ?_ ?_ | exact fun _ _ _ _ => Eq.refl _ | refine cellJ (fun _ _ => ?_) | (refine cellB ?_; (conv => whnf); refine And.intro ?_ ?_) | exact Nat.le_of_ble_eq_true (Eq.refl true) | exact ⟨_, _, Eq.refl _, Eq.refl _⟩ | fail))) <;> (try conv => whnf)))
    · (refine ⟨[], rfl, ⟨rfl, rfl, trivial, trivial⟩, ?_, ⟨?_, trivial⟩, fun _ => ⟨?_, trivial⟩⟩ <;> ((repeat' ((try conv => whnf); (first | exact trivial | exact Eq.refl _ | exact Or.inl (Eq.refl _) | refine And.intro ?_ ?_ | exact fun _ _ _ _ => Eq.refl _ | refine cellJ (fun _ _ => ?_) | (refine cellB ?_; (conv => whnf); refine And.intro ?_ ?_) | exact Nat.le_of_ble_eq_true (Eq.refl true) | exact ⟨_, _, Eq.refl _, Eq.refl _⟩ | fail))) <;> (try conv => whnf)))
      refine (hasJ_no (fun hm => ?_)).symm
      obtain ⟨k, hk, e⟩ := List.getElem_of_mem hm
      refine hall k (by omega) ?_
      rw [List.getD_eq_getElem?_getD, List.getElem?_eq_getElem hk]; exact e
end Go.Proofs.YtomjemikjnpinaaDoor
