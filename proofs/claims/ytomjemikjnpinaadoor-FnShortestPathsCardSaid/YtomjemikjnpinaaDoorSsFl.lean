/-
  The edges from a node and to a node.
-/
import Derived.Test.YtomjemikjnpinaaDoorSsFh
namespace Go.Proofs.YtomjemikjnpinaaDoor
set_option linter.unusedVariables false
set_option linter.unusedSimpArgs false
set_option maxRecDepth 100000
set_option maxHeartbeats 4000000
attribute [local irreducible] Fn
/-- The indices below n of the edges for which φ holds. -/
def idxs (φ : Edg → Bool) (es : List Edg) : Nat → List Int
  | 0 => []
  | n + 1 => if φ (es.getD n default) = true then idxs φ es n ++ [(n : Int)] else idxs φ es n
theorem idxs_mem {φ : Edg → Bool} {es : List Edg} {x : Int} : ∀ {n : Nat}, x ∈ idxs φ es n ↔ ∃ i : Nat, i < n ∧ x = (i : Int) ∧ φ (es.getD i default) = true := by
  intro n
  induction n with
  | zero => exact ⟨fun h => by simp [idxs] at h, fun ⟨i, h, _⟩ => by omega⟩
  | succ n ih =>
    unfold idxs
    constructor
    · intro h
      split at h
      · rename_i hp
        rcases List.mem_append.1 h with h | h
        · obtain ⟨i, h1, h2, h3⟩ := ih.1 h; exact ⟨i, by omega, h2, h3⟩
        · exact ⟨n, by omega, by simpa using h, hp⟩
      · obtain ⟨i, h1, h2, h3⟩ := ih.1 h; exact ⟨i, by omega, h2, h3⟩
    · rintro ⟨i, h1, rfl, h3⟩
      by_cases e : i = n
      · subst e; rw [if_pos h3]; simp
      · have := ih.2 ⟨i, by omega, rfl, h3⟩
        split
        · simp [this]
        · exact this
def fromB (a : Int) (e : Edg) : Bool := decide (e.1 = a)
def toB (a : Int) (e : Edg) : Bool := decide (e.2.1 = a)
def eFrom (g : Gr) (a : Int) : List Int := idxs (fromB a) g.2.1 g.2.1.length
def eTo (g : Gr) (a : Int) : List Int := idxs (toB a) g.2.1 g.2.1.length
end Go.Proofs.YtomjemikjnpinaaDoor
