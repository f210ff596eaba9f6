/-
  The edges of a path; its capacity and price.
-/
import Derived.Test.YtmnbpamaiboghaaSaFh
import Derived.Test.YtmnbpamaiboghaaSaFg
namespace Go.Proofs.Ytmnbpamaiboghaa
set_option linter.unusedVariables false
set_option linter.unusedSimpArgs false
set_option maxRecDepth 100000
set_option maxHeartbeats 4000000
attribute [local irreducible] Fn
theorem idxOf_lt {X : Type} [Inhabited X] {φ : X → Bool} {xs : List X} (h : 0 ≤ idxOf φ xs) : idxOf φ xs < xs.length := by
  unfold idxOf at h ⊢
  cases hf : xs.findIdx? φ with
  | none => rw [hf] at h; simp at h
  | some i =>
    obtain ⟨h1, _⟩ := List.findIdx?_eq_some_iff_getElem.1 hf
    simp; exact h1
/-- The edge into node i + 1 of a path. -/
def pe (g : Gr) (p : List Int) (i : Nat) : Int := eb g (p.getD i 0) (p.getD (i + 1) 0)
def pes (g : Gr) (p : List Int) : List Int := (List.range (p.length - 1)).map (pe g p)
/-- The capacity of the edge into node i + 1. -/
def pc (g : Gr) (p : List Int) (i : Nat) : Int := (g.2.1.getD (pe g p i).toNat default).2.2.1
def minUp (f : Nat → Int) : Nat → Int
  | 0 => 8
  | n + 1 => min (minUp f n) (f n)
noncomputable def pcap (g : Gr) (p : List Int) : Int := if isP g p = true ∧ p.length ≠ 1 then minUp (pc g p) (p.length - 1) else 0
/-- Sums as the program reckons them. -/
def sumW (f : Nat → Int) : Nat → Int
  | 0 => 0
  | n + 1 => IntKind.wrap .i64 (sumW f n + f n)
def pv (g : Gr) (v p : List Int) (i : Nat) : Int := v.getD (pe g p i).toNat 0
noncomputable def pprice (g : Gr) (v p : List Int) : Int := if isP g p = true ∧ v.length = g.2.1.length then sumW (pv g v p) (p.length - 1) else -1
end Go.Proofs.Ytmnbpamaiboghaa
