/-
  MakePlan in plain words: when there is a plan, and which.
-/
import Derived.Test.YtbepgedckfhifaaGreatFiJf
namespace Go.Proofs.YtbepgedckfhifaaGreat
set_option linter.unusedVariables false
set_option linter.unusedSimpArgs false
set_option maxRecDepth 100000
set_option maxHeartbeats 4000000
attribute [local irreducible] Fn
def OkM (g : Gr) (s d : Int) : Prop := acyB g = true ∧ 0 ≤ s ∧ s < g.1 ∧ 1 ≤ d ∧ d ≤ 8
open Classical in
noncomputable def mkB (g : Gr) (s d : Int) : Bool := decide (OkM g s d)
open Classical in
noncomputable def mkPl (g : Gr) (s d seed : Int) : CodePlan_T := if OkM g s d then (d, plnE g s seed d.toNat (topoL g) (topoL g).length, ()) else (0, [], ())
theorem mkB_yes {g : Gr} {s d : Int} (h : OkM g s d) : mkB g s d = true := by simp [mkB, h]
theorem mkB_no {g : Gr} {s d : Int} (h : ¬ OkM g s d) : mkB g s d = false := by simp [mkB, h]
theorem mkPl_yes {g : Gr} {s d seed : Int} (h : OkM g s d) : mkPl g s d seed = (d, plnE g s seed d.toNat (topoL g) (topoL g).length, ()) := if_pos h
theorem mkPl_no {g : Gr} {s d seed : Int} (h : ¬ OkM g s d) : mkPl g s d seed = (0, [], ()) := if_neg h
theorem cap_eq {g : Gr} (hv : ValidG g) {e : Int} (h0 : 0 ≤ e) (h1 : e < g.2.1.length) : (g.2.1.getD e.toNat default).2.2.1 = (capN g e : Int) ∧ 1 ≤ capN g e ∧ capN g e ≤ 8 := by
  obtain ⟨_, _, _, _, _, h2, h3, _⟩ := hv.edge e.toNat (by omega)
  unfold capN
  omega
theorem topo_at {g : Gr} (h : acyB g = true) {i : Nat} (hi : i < (topoL g).length) : 0 ≤ (topoL g).getD i 0 ∧ (topoL g).getD i 0 < g.1 := by
  rw [topoL_yes h] at hi ⊢
  exact (topR_inv (g := g) (n := g.1.toNat)).rng _ (getD_memI hi)
theorem set_cellE {E : EdgePlanS_T} {e i : Nat} {x : List (List Int) × Unit} (h : e < E.length) : (E.set e x).getD i default = if i = e then x else E.getD i default := by
  rw [List.getD_eq_getElem?_getD, List.getD_eq_getElem?_getD, List.getElem?_set]
  by_cases h2 : e = i
  · subst h2; simp [h]
  · rw [if_neg h2, if_neg (fun h3 => h2 h3.symm)]
theorem plnE_zl {g : Gr} {s seed : Int} {d : Nat} {O : List Int} {e : Nat} : (List.getD (plnE g s seed d O 0) e default).1.length = 0 := by
  rw [plnE_zero]; exact congrArg List.length (rep_vE (n := g.2.1.length) (e := e))
end Go.Proofs.YtbepgedckfhifaaGreat
