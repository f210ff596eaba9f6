/-
  Slices of structs with one slice of integers.
-/
import Derived.Test.YtbepgedckfhifaaGreatFiFd
namespace Go.Proofs.YtbepgedckfhifaaGreat
set_option linter.unusedVariables false
set_option linter.unusedSimpArgs false
set_option maxRecDepth 100000
set_option maxHeartbeats 4000000
attribute [local irreducible] Fn
def psum {X : Type} (sz : X → Nat) (xs : List X) (i : Nat) : Nat := ((xs.take i).map sz).sum
theorem psum_succ {X : Type} [Inhabited X] {sz : X → Nat} {xs : List X} {i : Nat} (h : i < xs.length) : psum sz xs (i + 1) = psum sz xs i + sz (xs.getD i default) := by
  unfold psum
  rw [List.take_add_one, List.getElem?_eq_getElem h, List.getD_eq_getElem?_getD, List.getElem?_eq_getElem h, List.map_append, List.sum_append]
  simp
theorem psum_le {X : Type} [Inhabited X] {sz : X → Nat} {xs : List X} : ∀ {i j : Nat}, i ≤ j → j ≤ xs.length → psum sz xs i ≤ psum sz xs j := by
  intro i j h h1
  induction j with
  | zero => obtain rfl : i = 0 := by omega
            exact Nat.le_refl _
  | succ j ih =>
    by_cases e : i = j + 1
    · rw [e]; exact Nat.le_refl _
    · rw [psum_succ (by omega)]; have := ih (by omega) (by omega); omega
def tot {X : Type} (sz : X → Nat) (xs : List X) : Nat := xs.length + psum sz xs xs.length
abbrev szL1 (x : L1) : Nat := x.1.length
theorem tot_at {X : Type} [Inhabited X] {sz : X → Nat} {xs : List X} {i : Nat} (h : i < xs.length) : sz (xs.getD i default) ≤ tot sz xs := by
  unfold tot
  have h1 := psum_succ (sz := sz) h
  have h2 := psum_le (sz := sz) (xs := xs) (i := i + 1) (j := xs.length) (by omega) (Nat.le_refl _)
  omega
abbrev RdA (x : L1) : AV := .cons (.ri false .i64 x.1) .nil
abbrev OwA (x : L1) : AV := .cons (.oi 3 .i64 x.1) .nil
def mkPs (k : Int) (xs : List L1) (i j : Nat) : L1 := if j < i then (marks (k + (psum szL1 xs j : Nat)) (xs.getD j default).1.length, ()) else xs.getD j default
end Go.Proofs.YtbepgedckfhifaaGreat
