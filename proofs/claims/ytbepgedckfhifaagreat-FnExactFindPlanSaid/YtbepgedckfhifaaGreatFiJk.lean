/-
  How large a plan is.
-/
import Derived.Test.YtbepgedckfhifaaGreatFiJh
import Derived.Test.YtbepgedckfhifaaGreatFiJg
import Derived.Test.YtbepgedckfhifaaGreatFiJi
namespace Go.Proofs.YtbepgedckfhifaaGreat
set_option linter.unusedVariables false
set_option linter.unusedSimpArgs false
set_option maxRecDepth 100000
set_option maxHeartbeats 4000000
attribute [local irreducible] Fn
theorem psum_bd {X : Type} [Inhabited X] {f : X → Nat} {B : Nat} {xs : List X} (h : ∀ i, i < xs.length → f (xs.getD i default) ≤ B) : ∀ {i : Nat}, i ≤ xs.length → psum f xs i ≤ B * i := by
  intro i
  induction i with
  | zero => intro _; simp [psum]
  | succ i ih =>
    intro hi
    rw [psum_succ (by omega)]
    have := ih (by omega)
    have := h i (by omega)
    rw [Nat.mul_succ]
    omega
theorem plE_sz {d : Nat} {E : EdgePlanS_T} (h : PlE d E) (hd : d ≤ 8) (hl : E.length ≤ 20) : sz_EdgePlanS E ≤ 4096 := by
  rw [szE_eq]
  have h1 := psum_bd (f := sz_EdgePlan) (B := 72) (xs := E) (fun i hi => by
    show sz_IntSS (vE E i) ≤ 72
    rw [szI_eq]
    have h2 := psum_bd (f := lnI) (B := 8) (xs := vE E i) (fun k hk => by
      have := (h.vec i k hk).1
      show ((vE E i).getD k default).length ≤ 8
      omega) (i := (vE E i).length) (Nat.le_refl _)
    have := h.len i
    omega) (i := E.length) (Nat.le_refl _)
  omega
theorem mkPl_sz {g : Gr} {s d seed : Int} : sz_CodePlan (mkPl g s d seed) ≤ 4096 := by
  by_cases h : OkM g s d
  · rw [mkPl_yes h]
    obtain ⟨hA, _, _, h1, h2⟩ := h
    obtain ⟨hv, _⟩ := acyB_iff.1 hA
    have := hv.len
    show sz_EdgePlanS (plnE g s seed d.toNat (topoL g) (topoL g).length) ≤ 4096
    exact plE_sz (plnE_ok hv) (by omega) (by rw [plnE_len]; omega)
  · rw [mkPl_no h]
    show sz_EdgePlanS [] ≤ 4096
    rw [szE_eq]; simp [psum]
end Go.Proofs.YtbepgedckfhifaaGreat
