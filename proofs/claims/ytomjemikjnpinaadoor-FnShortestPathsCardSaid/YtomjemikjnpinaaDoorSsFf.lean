/-
  Functions of slices of integers: Index, Contains, IndexFunc, ContainsFunc, Clone; extremes.
-/
import Derived.Test.YtomjemikjnpinaaDoorSsFe
namespace Go.Proofs.YtomjemikjnpinaaDoor
set_option linter.unusedVariables false
set_option linter.unusedSimpArgs false
set_option maxRecDepth 100000
set_option maxHeartbeats 4000000
attribute [local irreducible] Fn
/-- The first place where φ holds, or -1. -/
def idxOf {X : Type} [Inhabited X] (φ : X → Bool) (xs : List X) : Int := match xs.findIdx? φ with | some i => (i : Int) | none => -1
theorem idxOf_at {X : Type} [Inhabited X] {φ : X → Bool} {xs : List X} {i : Nat} (h : i < xs.length) (h1 : φ (xs.getD i default) = true) (h2 : ∀ k, k < i → φ (xs.getD k default) = false) : idxOf φ xs = i := by
  have g : ∀ k, k < xs.length → ∀ hk : k < xs.length, xs.getD k default = xs[k] := fun k _ hk => by rw [List.getD_eq_getElem?_getD, List.getElem?_eq_getElem hk]; rfl
  have : xs.findIdx? φ = some i := by
    rw [List.findIdx?_eq_some_iff_getElem]
    refine ⟨h, by rw [← g i h h]; exact h1, fun j hj => ?_⟩
    have := h2 j hj
    rw [g j (by omega) (by omega)] at this
    simp [this]
  simp [idxOf, this]
theorem idxOf_none {X : Type} [Inhabited X] {φ : X → Bool} {xs : List X} (h : ∀ k, k < xs.length → φ (xs.getD k default) = false) : idxOf φ xs = -1 := by
  have : xs.findIdx? φ = none := by
    rw [List.findIdx?_eq_none_iff]
    intro x hx
    obtain ⟨k, hk, rfl⟩ := List.getElem_of_mem hx
    have := h k hk
    rw [List.getD_eq_getElem?_getD, List.getElem?_eq_getElem hk] at this
    simpa using this
  simp [idxOf, this]
theorem idxOf_any {X : Type} [Inhabited X] {φ : X → Bool} {xs : List X} : (0 ≤ idxOf φ xs) ↔ xs.any φ = true := by
  unfold idxOf
  cases h : xs.findIdx? φ with
  | none => simp only [List.findIdx?_eq_none_iff] at h; simp; exact fun x hx => h x hx
  | some i =>
    obtain ⟨h1, h2, _⟩ := List.findIdx?_eq_some_iff_getElem.1 h
    simp
    exact ⟨xs[i], List.getElem_mem _, h2⟩
/-- A function value that tests an integer. -/
def Tests (f : Nat) (φ : Int → Bool) : Prop := ∀ x, Fn Tryd.prog f true (.cons (.I x) .nil) [] (.b (φ x)) []
end Go.Proofs.YtomjemikjnpinaaDoor
