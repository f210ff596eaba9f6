/-
  The cheapest path, in plain words: what it costs, and that no path is cheaper; the loads of two paths.
-/
import Derived.Test.YtmnbpamaiboghaaSaGe
import Derived.Test.YtmnbpamaiboghaaSaHc
import Derived.Test.YtmnbpamaiboghaaSaFk
namespace Go.Proofs.Ytmnbpamaiboghaa
set_option linter.unusedVariables false
set_option linter.unusedSimpArgs false
/-- Edges are in order. -/
theorem edges_lt {g : Gr} (hv : ValidG g) {i : Nat} : ∀ {d : Nat}, i + d + 1 < g.2.1.length → LessE (g.2.1.getD i default) (g.2.1.getD (i + d + 1) default) := by
  intro d
  induction d with
  | zero =>
    intro h
    have := (hv.edge (i + 1) h).2.2.2.2.2.2.2 (by omega)
    exact this
  | succ d ih =>
    intro h
    have h1 := ih (by omega)
    have h2 := (hv.edge (i + d + 1 + 1) h).2.2.2.2.2.2.2 (by omega)
    rw [Nat.add_sub_cancel] at h2
    have e : i + (d + 1) + 1 = i + d + 1 + 1 := by omega
    rw [e]
    unfold LessE at *
    omega
/-- The way from a node that the cheapest edges lead. -/
structure CcOk (g : Gr) (v c : List Int) (t a : Int) (l : List Int) : Prop where
  ne : 0 < l.length
  fst : l.getD 0 0 = a
  lst : l.getD (l.length - 1) 0 = t
  mem : ∀ x ∈ l, 0 ≤ x ∧ x < g.1 ∧ 0 ≤ cAt c x ∧ cAt c x ≤ cAt c a
  dn : l.Pairwise (fun x y => cAt c y < cAt c x)
  edge : ∀ q, q + 1 < l.length → ∃ k, k < g.2.1.length ∧ (eAt g k).1 = l.getD q 0 ∧ (eAt g k).2.1 = l.getD (q + 1) 0 ∧ cAt c (l.getD (q + 1) 0) + v.getD k 0 + 1 = cAt c (l.getD q 0)
/-! ### the loads of two paths -/
def totL (xs : List Int) : Nat → Int := sumP (fun k => xs.getD k 0)
end Go.Proofs.Ytmnbpamaiboghaa
