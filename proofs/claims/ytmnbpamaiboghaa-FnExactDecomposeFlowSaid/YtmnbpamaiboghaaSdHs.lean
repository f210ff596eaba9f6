/-
  What is reached is reached on; a graph without the edges from a node, in plain words.
-/
import Derived.Test.YtmnbpamaiboghaaSdHr
namespace Go.Proofs.Ytmnbpamaiboghaa
set_option linter.unusedVariables false
set_option linter.unusedSimpArgs false
def rmIx (B : Nat → Bool) (n : Nat) : List Nat := (List.range n).filter fun i => !B i
theorem rmIx_up {B : Nat → Bool} {n : Nat} : (rmIx B n).Pairwise (fun a b => a < b) := List.pairwise_lt_range.filter _
theorem rmE_eq {B : Nat → Bool} {es : List Edg} {n : Nat} : rmE B es n = (rmIx B n).map fun i => es.getD i default := rfl
theorem rmE_at {B : Nat → Bool} {es : List Edg} {n i : Nat} (h : i < (rmE B es n).length) : ∃ hi : i < (rmIx B n).length, (rmE B es n).getD i default = es.getD (rmIx B n)[i] default ∧ (rmIx B n)[i] < n ∧ B (rmIx B n)[i] = false := by
  have hi : i < (rmIx B n).length := by rw [rmE_eq, List.length_map] at h; exact h
  refine ⟨hi, ?_, ?_, ?_⟩
  · rw [rmE_eq, List.getD_eq_getElem?_getD, List.getElem?_map, List.getElem?_eq_getElem hi]; rfl
  · have := List.getElem_mem hi
    unfold rmIx at this
    exact List.mem_range.1 (List.mem_filter.1 this).1
  · have := List.getElem_mem hi
    generalize (rmIx B n)[i] = x at this
    unfold rmIx at this
    simpa using (List.mem_filter.1 this).2
def rmG (g : Gr) (B : Nat → Bool) : Gr := (g.1, rmE B g.2.1 g.2.1.length, ())
theorem rm_valid {g : Gr} (hv : ValidG g) (B : Nat → Bool) : ValidG (rmG g B) := by
  refine ⟨hv.lo, hv.hi, ?_, fun i hi => ?_⟩
  · have := rmE_len (B := B) (es := g.2.1) (n := g.2.1.length)
    have := hv.len
    show (rmE B g.2.1 g.2.1.length).length ≤ 20
    omega
  · have hi' : i < (rmE B g.2.1 g.2.1.length).length := hi
    obtain ⟨h1, h2, h3, h4⟩ := rmE_at hi'
    have he := hv.edge _ h3
    simp only [EdgeOk] at he ⊢
    show 0 ≤ ((rmE B g.2.1 g.2.1.length).getD i default).1 ∧ _
    rw [show (rmG g B).2.1 = rmE B g.2.1 g.2.1.length from rfl, show (rmG g B).1 = g.1 from rfl, h2]
    refine ⟨he.1, he.2.1, he.2.2.1, he.2.2.2.1, he.2.2.2.2.1, he.2.2.2.2.2.1, he.2.2.2.2.2.2.1, fun h0 => ?_⟩
    obtain ⟨g1, g2, g3, g4⟩ := rmE_at (B := B) (es := g.2.1) (n := g.2.1.length) (i := i - 1) (by omega)
    rw [g2]
    have hlt : (rmIx B g.2.1.length)[i - 1] < (rmIx B g.2.1.length)[i] := List.pairwise_iff_getElem.1 rmIx_up (i - 1) i g1 h1 (by omega)
    obtain ⟨d, hd⟩ : ∃ d, (rmIx B g.2.1.length)[i] = (rmIx B g.2.1.length)[i - 1] + d + 1 := ⟨(rmIx B g.2.1.length)[i] - (rmIx B g.2.1.length)[i - 1] - 1, by omega⟩
    have := edges_lt hv (i := (rmIx B g.2.1.length)[i - 1]) (d := d) (by omega)
    rw [← hd] at this
    exact this
/-- Without the edges from node a. -/
def noF (g : Gr) (a : Int) : Gr := rmG g fun i => hasI (eFrom g a) i
end Go.Proofs.Ytmnbpamaiboghaa
