/-
  IsExpelled of the program and of the reference.
-/
import Derived.Test.YtefkjkbipkcncaaCount
namespace Go.Proofs.Ytefkjkbipkcncaa
open Go.ChangeShapes Go.WideShapes Go.ChangeAt Go.RowKit
set_option linter.unusedVariables false

theorem expel_impl (A : Option Addr) (n c : Nat) (xs : List Tri) (node : Int) (hn : n ≤ 1048576) (w : World) (hr : Rd w 3 A n (tris xs)) :
    Calls Try.prog 21 #[.agg #[.slice A n c], .int .i64 node] w fun e w' => e = .returned (.bool (decide (2 ≤ cnt node xs))) ∧ Ext w w' := by
  have eW : Ext w (w.alloc (.cells #[.slice A n c] 29)) := (Ext.refl w).alloc _
  have HR := Lib.hid (hr.ext eW)
  go_enter Try.func21, Try.ntmps21
  go_wp2_with fail
  refine (count_impl _ _ _ _ _ hn _ HR.out).mono ?_
  rintro e w1 ⟨rfl, b1⟩
  go_wp2_with fail
  go_ret
  exact ⟨rfl, eW.trans b1⟩
theorem expel_spec (A : Option Addr) (n c : Nat) (xs : List Tri) (node : Int) (hn : n ≤ 1048576) (w : World) (hr : Rd w 3 A n (tris xs)) :
    Calls Try.prog 20 #[.agg #[.slice A n c], .int .i64 node] w fun e w' => e = .returned (.bool (decide (2 ≤ cnt node xs))) ∧ Ext w w' := by
  have eW : Ext w (w.alloc (.cells #[.slice A n c] 29)) := (Ext.refl w).alloc _
  have HR := Lib.hid (hr.ext eW)
  go_enter Try.func20, Try.ntmps20
  go_wp2_with fail
  refine (count_spec _ _ _ _ _ hn _ HR.out).mono ?_
  rintro e w1 ⟨rfl, b1⟩
  go_wp2_with fail
  go_ret
  exact ⟨rfl, eW.trans b1⟩

end Go.Proofs.Ytefkjkbipkcncaa
