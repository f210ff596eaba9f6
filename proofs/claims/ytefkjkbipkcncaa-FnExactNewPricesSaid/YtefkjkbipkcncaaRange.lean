/-
  InRange of the program, l1In of the reference.
-/
import Derived.Test.YtefkjkbipkcncaaInts
namespace Go.Proofs.Ytefkjkbipkcncaa
open Go.ChangeShapes Go.WideShapes Go.ChangeAt Go.RowKit
set_option linter.unusedVariables false

/-- lo ≤ x ≤ hi. -/
def inB (x lo hi : Int) : Bool := decide (lo ≤ x ∧ x ≤ hi)
theorem inB_t {x lo hi : Int} (h1 : lo ≤ x) (h2 : x ≤ hi) : inB x lo hi = true := by simp [inB, h1, h2]
theorem inB_f {x lo hi : Int} (h : x < lo ∨ hi < x) : inB x lo hi = false := by simp [inB]; omega
theorem inB_iff {x lo hi : Int} : inB x lo hi = true ↔ lo ≤ x ∧ x ≤ hi := by simp [inB]
theorem in_impl (x lo hi : Int) (w : World) : Calls Try.prog 87 #[.int .i64 x, .int .i64 lo, .int .i64 hi] w fun e w' => e = .returned (.bool (inB x lo hi)) ∧ w' = w := by
  by_cases h1 : lo ≤ x
  case neg =>
    rw [show inB x lo hi = false by simp [inB, h1]]
    go_enter Try.func87, Try.ntmps87
    go_wp2
    go_ret
    exact ⟨rfl, rfl⟩
  rw [show inB x lo hi = decide (x ≤ hi) by simp [inB, h1]]
  go_enter Try.func87, Try.ntmps87
  go_wp2
  go_ret
  exact ⟨rfl, rfl⟩
theorem in_spec (x lo hi : Int) (w : World) : Calls Try.prog 80 #[.int .i64 x, .int .i64 lo, .int .i64 hi] w fun e w' => e = .returned (.bool (inB x lo hi)) ∧ w' = w := by
  by_cases h1 : lo ≤ x
  case neg =>
    rw [show inB x lo hi = false by simp [inB, h1]]
    go_enter Try.func80, Try.ntmps80
    go_wp2
    go_ret
    exact ⟨rfl, rfl⟩
  rw [show inB x lo hi = decide (x ≤ hi) by simp [inB, h1]]
  go_enter Try.func80, Try.ntmps80
  go_wp2
  go_ret
  exact ⟨rfl, rfl⟩

end Go.Proofs.Ytefkjkbipkcncaa
