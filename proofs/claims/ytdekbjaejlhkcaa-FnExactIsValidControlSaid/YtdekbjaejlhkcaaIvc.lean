/-
  IsValidControl of the program returns what the reference's returns, for every argument.
-/
import Derived.Test.YtdekbjaejlhkcaaOpenCtl
namespace Go.Proofs.Ytdekbjaejlhkcaa.fnExactIsValidControl
open Go.ChangeShapes Go.WideShapes Go.ChangeAt Go.RowKit

theorem law (r c k l s : Int) (w : World) :
    Calls Try.prog 4 #[ctl r c k l s] w fun e w' => e = .returned (.bool true) ∧ Ext w w' := by
  go_enter Try.func4, Try.ntmps4
  go_wp2_with fail
  refine (to_ctl _ _ _ _ _ _).mono ?_
  rintro e w1 ⟨rfl, b1⟩
  obtain ⟨c1, f1⟩ := b1.cells
  have z1 := b1.size
  try simp only [World.size_alloc] at c1 f1 z1
  have y1 : w.heap.size < w1.heap.size := by omega
  go_wp2_with fail
  refine (valid_spec _ _ _ _ _ _).mono ?_
  rintro e w2 ⟨rfl, b2⟩
  obtain ⟨c2, f2⟩ := b2.cells
  have z2 := b2.size
  try simp only [World.size_alloc] at c2 f2 z2
  have y2 : w.heap.size < w2.heap.size := by omega
  go_wp2_with fail
  refine (to_ctl _ _ _ _ _ _).mono ?_
  rintro e w3 ⟨rfl, b3⟩
  obtain ⟨c3, f3⟩ := b3.cells
  have z3 := b3.size
  try simp only [World.size_alloc] at c3 f3 z3
  have y3 : w.heap.size < w3.heap.size := by omega
  go_wp2_with fail
  refine (valid_impl _ _ _ _ _ _).mono ?_
  rintro e w4 ⟨rfl, b4⟩
  obtain ⟨c4, f4⟩ := b4.cells
  have z4 := b4.size
  try simp only [World.size_alloc] at c4 f4 z4
  have y4 : w.heap.size < w4.heap.size := by omega
  go_wp2_with fail
  go_ret
  exact ⟨rfl, (by repeat (first | exact Ext.refl _ | refine Ext.alloc ?_ _ | refine Ext.drew ?_ | refine Ext.trans ?_ (by assumption)))⟩

theorem walk : LawWalk 4 Try.f4 := by
  intro H enc W base args ds p hval hA
  rw [Try.params4] at hA hval
  obtain ⟨v0, vs0, d0, ds0, p0, q0, hargs, rfl, rfl, h0, r0⟩ := trodAll_cons hA
  obtain ⟨rfl, rfl, rfl⟩ := trodAll_nil r0
  obtain rfl : args = #[v0] := by cases args; simp_all
  obtain ⟨r, c, k, l, s, rfl⟩ := open_ctl (hval 0 _ v0 rfl rfl) h0
  exact law r c k l s W

set_option maxRecDepth 100000 in
theorem over : Rows.fnExactIsValidControlRow.holds Try.pinned (OpenSpec.ofChange Rows.fnExactIsValidControlSpec) :=
  OpenClaim.holds_of_wide 4 Try.f4 rfl rfl rfl rfl rfl rfl rfl ⟨rfl, rfl, rfl, rfl, rfl⟩ rfl rfl rfl rfl rfl (by kernel_rfl) Try.func4 (by kernel_rfl)
    (of_decide_eq_true (by kernel_rfl)) (by unfold Func.isWrapper; first | (rw [if_pos (by decide +kernel)]; kernel_rfl) | (rw [if_neg (by decide +kernel)]; exact ⟨rfl, rfl⟩))
    (fun os started H enc _ => lifted_of (s := Rows.fnExactIsValidControlSpec) (conds := Rows.fnExactIsValidControlRow.domain) os started H enc (by kernel_rfl) Try.func4
      (ChangeSpec.witness6 (enc := enc) (C := Try.checked) false ⟨#[], #[.agg #[.int .i64 0, .int .i64 0, .int .i64 0, .int .i64 0, .int .i64 0]], []⟩ 8 (by kernel_rfl) (by kernel_rfl) (by kernel_rfl) (by kernel_rfl))
      (by kernel_rfl) rfl (by kernel_rfl) (fun ds h => by match ds, h with | [d], _ => rfl) walk)

theorem proved : Rows.FnExactIsValidControlSaid := over
#print axioms proved
end Go.Proofs.Ytdekbjaejlhkcaa.fnExactIsValidControl
