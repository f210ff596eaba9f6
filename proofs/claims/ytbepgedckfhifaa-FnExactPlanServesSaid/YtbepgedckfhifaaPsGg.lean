/-
  What is reached, of the reference; TopologicalOrder of both.
-/
import Derived.Test.YtbepgedckfhifaaPsGf
import Derived.Test.YtbepgedckfhifaaPsFo
import Derived.Test.YtbepgedckfhifaaPsVC
namespace Go.Proofs.Ytbepgedckfhifaa
set_option linter.unusedVariables false
set_option linter.unusedSimpArgs false
set_option maxRecDepth 100000
set_option maxHeartbeats 4000000
attribute [local irreducible] Fn
theorem eTo_leT {g : Gr} {a : Int} : (eTo g a).length ≤ g.2.1.length := idxs_len
theorem eTo_okT {g : Gr} {a : Int} {k : Nat} (h : k < (eTo g a).length) : 0 ≤ (eTo g a).getD k 0 ∧ (eTo g a).getD k 0 < g.2.1.length := ⟨(idxs_at h).1, (idxs_at h).2.1⟩
open Classical in
noncomputable def acyB (g : Gr) : Bool := decide (ValidG g ∧ Acyc g)
noncomputable def topoL (g : Gr) : List Int := if acyB g = true then topR g g.1.toNat else []
attribute [local irreducible] rstart rr rpass reachL toL tos eFrom eTo topR topoL acyB hasI
def wtB (out : List Int) (a : Int) (e : Edg) : Bool := decide (e.2.1 = a) && !hasI out e.1
def Nx1 (g : Gr) (out : List Int) (m : Nat) (x : Int) : Prop := (x = -1 ∧ ∀ b : Nat, m ≤ b → (b : Int) < g.1 → ¬ Rdy g out (b : Int)) ∨ ∃ a : Nat, x = a ∧ m ≤ a ∧ (a : Int) < g.1 ∧ Rdy g out (a : Int) ∧ ∀ b : Nat, m ≤ b → b < a → ¬ Rdy g out (b : Int)
theorem Nx1.take {g : Gr} {out : List Int} {m : Nat} (hm : (m : Int) < g.1) (hr : Rdy g out (m : Int)) : Nx1 g out m (m : Int) := .inr ⟨m, rfl, Nat.le_refl _, hm, hr, fun b h1 h2 => by omega⟩
theorem Nx1.skip {g : Gr} {out : List Int} {m : Nat} {x : Int} (h : Nx1 g out (m + 1) x) (hr : ¬ Rdy g out (m : Int)) : Nx1 g out m x := by
  rcases h with ⟨h1, h2⟩ | ⟨a, h1, h2, h3, h4, h5⟩
  · refine .inl ⟨h1, fun b hb hg => ?_⟩
    by_cases e : b = m
    · rw [e]; exact hr
    · exact h2 b (by omega) hg
  · refine .inr ⟨a, h1, by omega, h3, h4, fun b hb hg => ?_⟩
    by_cases e : b = m
    · rw [e]; exact hr
    · exact h5 b (by omega) hg
end Go.Proofs.Ytbepgedckfhifaa
