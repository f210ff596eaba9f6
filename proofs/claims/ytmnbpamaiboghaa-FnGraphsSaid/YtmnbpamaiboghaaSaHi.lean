/-
  The capacity of a cut, of the program; the nodes that are reached, of the reference.
-/
import Derived.Test.YtmnbpamaiboghaaSaHb
import Derived.Test.YtmnbpamaiboghaaSaGg
import Derived.Test.YtmnbpamaiboghaaSaFz
namespace Go.Proofs.Ytmnbpamaiboghaa
set_option linter.unusedVariables false
set_option linter.unusedSimpArgs false
set_option maxRecDepth 100000
set_option maxHeartbeats 4000000
attribute [local irreducible] Fn
section
attribute [local irreducible] cutS hasI
end
/-- The nodes that are reached, of the first n. -/
def rnN (s : List Bool) : Nat → List Int
  | 0 => []
  | n + 1 => if s.getD n false = true then rnN s n ++ [(n : Int)] else rnN s n
theorem rnN_mem {s : List Bool} {x : Int} : ∀ {n : Nat}, x ∈ rnN s n ↔ 0 ≤ x ∧ x < n ∧ s.getD x.toNat false = true := by
  intro n
  induction n with
  | zero => constructor
            · intro h; cases h
            · intro h; omega
  | succ n ih =>
    unfold rnN
    split
    · rename_i h
      rw [List.mem_append, ih, List.mem_singleton]
      constructor
      · rintro (h1 | rfl)
        · exact ⟨h1.1, by omega, h1.2.2⟩
        · exact ⟨by omega, by omega, h⟩
      · rintro ⟨h1, h2, h3⟩
        by_cases e : x = n
        · exact .inr e
        · exact .inl ⟨h1, by omega, h3⟩
    · rename_i h
      rw [ih]
      constructor
      · rintro ⟨h1, h2, h3⟩; exact ⟨h1, by omega, h3⟩
      · rintro ⟨h1, h2, h3⟩
        refine ⟨h1, ?_, h3⟩
        rcases Classical.em (x = n) with e | e
        · subst e; exact absurd h3 h
        · omega
theorem rnN_len {s : List Bool} : ∀ {n : Nat}, (rnN s n).length ≤ n := by
  intro n
  induction n with
  | zero => exact Nat.le_refl _
  | succ n ih =>
    unfold rnN
    split
    · rw [List.length_append, List.length_singleton]; omega
    · omega
def rnL (g : Gr) (a : Int) : List Int := rnN (reachL g [a]) g.1.toNat
section
attribute [local irreducible] reachL rnN
end
end Go.Proofs.Ytmnbpamaiboghaa
