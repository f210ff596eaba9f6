/-
  Slices sorted; a map's keys, sorted: the library's contracts turned to contracts of the evaluator.
-/
import Derived.Test.YtbepgedckfhifaaGreatSuFo
import Derived.Test.YtbepgedckfhifaaGreatSuSh
namespace Go.Proofs.YtbepgedckfhifaaGreat
open Go.Shelf Go.RowKit Go.Maps Go.Sort
set_option linter.unusedVariables false
set_option linter.unusedSimpArgs false
set_option maxRecDepth 100000
set_option maxHeartbeats 4000000
attribute [local irreducible] Fn
def sortI (xs : List Int) : List Int := xs.mergeSort fun x y => decide (x ≤ y)
theorem sortI_mem {xs : List Int} {x : Int} : x ∈ sortI xs ↔ x ∈ xs := List.mem_mergeSort
theorem sortI_len {xs : List Int} : (sortI xs).length = xs.length := List.length_mergeSort xs
theorem sortI_perm {xs : List Int} : (sortI xs).Perm xs := List.mergeSort_perm xs _
theorem sortI_up {xs : List Int} : (sortI xs).Pairwise (fun a b => a ≤ b) :=
  (List.pairwise_mergeSort (le := fun x y : Int => decide (x ≤ y)) (fun a b c h1 h2 => by simp only [decide_eq_true_eq] at *; omega) (fun a b => by simp only [Bool.or_eq_true, decide_eq_true_eq]; omega) xs).imp (fun h => of_decide_eq_true h)
def plainB : Blk → Prop
  | .box _ => True
  | .mp _ _ => True
  | .row _ c => ∀ i j, (c.cell i j).sub = none
theorem plain_at {x z : Blk} {p : List (Nat × Nat)} (hx : plainB x) (h : x.At p z) : p = [] ∧ z = x := by
  cases p with
  | nil => exact ⟨rfl, h⟩
  | cons q p =>
    obtain ⟨e, c, y, rfl, h1, h2, h3, _⟩ := h
    rw [hx] at h3; cases h3
theorem plain_look {σ : List (Nat × Blk)} (hσ : ∀ L x, lkx σ L = some x → plainB x) {N : Nm} {z : Blk} (h : AtL (lkx σ) N z) : N = rt N.r ∧ lkx σ N.r = some z := by
  obtain ⟨r, p⟩ := N
  obtain ⟨x, h1, h2⟩ := h
  obtain ⟨rfl, rfl⟩ := plain_at (hσ _ _ h1) h2
  exact ⟨rfl, h1⟩
theorem look_plain {σ : List (Nat × Blk)} {L : Nat} {z : Blk} (h : lkx σ L = some z) : AtL (lkx σ) (rt L) z := ⟨z, h, rfl⟩
theorem plain_ints {T : Nat} {k : IntKind} {xs : List Int} : plainB (.row T (.ints k xs)) := fun _ _ => rfl
theorem lk1 {a L : Nat} {x z : Blk} (h : lkx [(a, x)] L = some z) : L = a ∧ z = x := by
  simp only [lkx] at h
  cases hb : Nat.beq a L with
  | false => rw [hb] at h; cases h
  | true => rw [hb] at h; cases h; exact ⟨(Nat.eq_of_beq_eq_true hb).symm, rfl⟩
theorem lkc {a L : Nat} {x z : Blk} {σ : List (Nat × Blk)} (h : lkx ((a, x) :: σ) L = some z) : (L = a ∧ z = x) ∨ lkx σ L = some z := by
  simp only [lkx] at h
  cases hb : Nat.beq a L with
  | false => rw [hb] at h; exact .inr h
  | true => rw [hb] at h; cases h; exact .inl ⟨(Nat.eq_of_beq_eq_true hb).symm, rfl⟩
end Go.Proofs.YtbepgedckfhifaaGreat
