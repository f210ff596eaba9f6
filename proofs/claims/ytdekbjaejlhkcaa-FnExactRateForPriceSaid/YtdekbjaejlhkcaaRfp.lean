/-
  RateForPrice of the program returns what the reference's returns, for every argument.
-/
import Derived.Test.YtdekbjaejlhkcaaBase
namespace Go.Proofs.Ytdekbjaejlhkcaa.fnExactRateForPrice
open Go.ChangeShapes Go.WideShapes Go.ChangeAt Go.RowKit

theorem rate_spec (a0 : Int) (h1 : a0 ≤ 9223372036854775807) (w : World) :
    Calls Try.prog 3 #[.int .i64 a0] w fun e w' => e = .returned (.bool true) ∧ Below w.heap.size w w' := by
  by_cases h0 : a0 < 0
  · go_enter Try.func3, Try.ntmps3
    go_wp2
    go_ret
    exact ⟨rfl, Below.refl _ _⟩
  · have h2 : 0 ≤ a0 := by omega
    have h3 : 0 ≤ 8 / (1 + a0 / 4) := Int.ediv_nonneg (by omega) (by omega)
    have h4 : 8 / (1 + a0 / 4) ≤ 8 := Int.ediv_le_self _ (by omega)
    go_enter Try.func3, Try.ntmps3
    go_wp2
    all_goals
      go_ret
      exact ⟨rfl, Below.refl _ _⟩

theorem walk : LawWalk 3 Try.f3 := by
  intro H enc W base args ds p hval hA
  rw [Try.params3] at hA hval
  obtain ⟨v0, vs0, d0, ds0, p0, q0, hargs, rfl, rfl, h0, r0⟩ := trodAll_cons hA
  obtain ⟨rfl, rfl, rfl⟩ := trodAll_nil r0
  obtain rfl : args = #[v0] := by cases args; simp_all
  obtain ⟨a0, rfl, rfl, rfl, w0⟩ := open_int Try.underlying3 (hval 0 3 v0 rfl rfl) h0
  exact rate_spec a0 (i64_hi w0) W

set_option maxRecDepth 100000 in
theorem over : Rows.fnExactRateForPriceRow.holds Try.pinned (OpenSpec.ofChange Rows.fnExactRateForPriceSpec) :=
  OpenClaim.holds_of_wide 3 Try.f3 rfl rfl rfl rfl rfl rfl rfl ⟨rfl, rfl, rfl, rfl, rfl⟩ rfl rfl rfl rfl rfl (by kernel_rfl) Try.func3 (by kernel_rfl)
    (of_decide_eq_true (by kernel_rfl)) (by unfold Func.isWrapper; first | (rw [if_pos (by decide +kernel)]; kernel_rfl) | (rw [if_neg (by decide +kernel)]; exact ⟨rfl, rfl⟩))
    (fun os started H enc _ => lifted_of (s := Rows.fnExactRateForPriceSpec) (conds := Rows.fnExactRateForPriceRow.domain) os started H enc (by kernel_rfl) Try.func3
      (ChangeSpec.witness6 (enc := enc) (C := Try.checked) false ⟨#[], #[.int .i64 0], []⟩ 8 (by kernel_rfl) (by kernel_rfl) (by kernel_rfl) (by kernel_rfl))
      (by kernel_rfl) rfl (by kernel_rfl) (fun ds h => by match ds, h with | [d], _ => rfl) walk)

theorem proved : Rows.FnExactRateForPriceSaid := over
#print axioms proved
end Go.Proofs.Ytdekbjaejlhkcaa.fnExactRateForPrice
