/-
  NewRateControl of the program returns what the reference's returns, for every argument.
-/
import Derived.Test.YtdekbjaejlhkcaaNew
namespace Go.Proofs.Ytdekbjaejlhkcaa.fnExactNewRateControl
open Go.ChangeShapes Go.WideShapes Go.ChangeAt Go.RowKit

set_option maxHeartbeats 800000 in
theorem law (c : Int) (w : World) :
    Calls Try.prog 5 #[.int .i64 c] w fun e w' => e = .returned (.bool true) ∧ Ext w w' := by
  go_enter Try.func5, Try.ntmps5
  go_wp2_with fail
  refine (new_spec _ _).mono ?_
  rintro e w1 ⟨rfl, b1⟩
  obtain ⟨c1, f1⟩ := b1.cells
  have z1 := b1.size
  try simp only [World.size_alloc] at c1 f1 z1
  go_wp2_with fail
  refine (new_impl _ _).mono ?_
  rintro e w2 ⟨rfl, b2⟩
  obtain ⟨c2, f2⟩ := b2.cells
  have z2 := b2.size
  try simp only [World.size_alloc] at c2 f2 z2
  have y2_0 : w1.heap.size < w2.heap.size := by omega
  have k2_0_0 : w2.cell? ⟨w1.heap.size, 0, none⟩ = some (.int .i64 1) := (c2 _ _ (by omega)).trans (by go_simp)
  have g2_0_0 : w2.frozen? ⟨w1.heap.size, 0, none⟩ = false := (f2 _ _ (by omega)).trans (by go_simp)
  have k2_0_1 : w2.cell? ⟨w1.heap.size, 1, none⟩ = some (.int .i64 (ncv c)) := (c2 _ _ (by omega)).trans (by go_simp)
  have g2_0_1 : w2.frozen? ⟨w1.heap.size, 1, none⟩ = false := (f2 _ _ (by omega)).trans (by go_simp)
  have k2_0_2 : w2.cell? ⟨w1.heap.size, 2, none⟩ = some (.int .i64 1) := (c2 _ _ (by omega)).trans (by go_simp)
  have g2_0_2 : w2.frozen? ⟨w1.heap.size, 2, none⟩ = false := (f2 _ _ (by omega)).trans (by go_simp)
  have k2_0_3 : w2.cell? ⟨w1.heap.size, 3, none⟩ = some (.int .i64 0) := (c2 _ _ (by omega)).trans (by go_simp)
  have g2_0_3 : w2.frozen? ⟨w1.heap.size, 3, none⟩ = false := (f2 _ _ (by omega)).trans (by go_simp)
  have k2_0_4 : w2.cell? ⟨w1.heap.size, 4, none⟩ = some (.int .i64 0) := (c2 _ _ (by omega)).trans (by go_simp)
  have g2_0_4 : w2.frozen? ⟨w1.heap.size, 4, none⟩ = false := (f2 _ _ (by omega)).trans (by go_simp)
  clear c2 f2
  go_wp2_with fail
  refine (eq_ctl _ _ _ _ _ _).mono ?_
  rintro e w3 ⟨rfl, b3⟩
  obtain ⟨c3, f3⟩ := b3.cells
  have z3 := b3.size
  try simp only [World.size_alloc] at c3 f3 z3
  go_wp2_with fail
  go_ret
  refine ⟨rfl, ?_⟩
  repeat (first | with_reducible exact Ext.refl _ | with_reducible assumption | with_reducible refine Ext.alloc ?_ _ | with_reducible refine Ext.drew ?_ | with_reducible refine Ext.drewN ?_ _ | (with_reducible refine Ext.setCell ?_ ?hle _; case hle => (first | (with_reducible exact Nat.le_refl _) | omega | (dsimp only; omega) | (simp only [World.size_alloc]; omega))) | with_reducible refine Ext.trans ?_ (by with_reducible assumption))

theorem walk : LawWalk 5 Try.f5 := by
  intro H enc W base args ds p hval hA
  rw [Try.params5] at hA hval
  obtain ⟨v0, vs0, d0, ds0, p0, q0, hargs, rfl, rfl, h0, r0⟩ := trodAll_cons hA
  obtain ⟨rfl, rfl, rfl⟩ := trodAll_nil r0
  obtain rfl : args = #[v0] := by cases args; simp_all
  obtain ⟨c, rfl, l_c, u_c⟩ := outer_int Try.underlying3 (hval 0 _ v0 rfl rfl) h0
  exact law c W

set_option maxRecDepth 100000 in
theorem over : Rows.fnExactNewRateControlRow.holds Try.pinned (OpenSpec.ofChange Rows.fnExactNewRateControlSpec) :=
  OpenClaim.holds_of_wide 5 Try.f5 rfl rfl rfl rfl rfl rfl rfl ⟨rfl, rfl, rfl, rfl, rfl⟩ rfl rfl rfl rfl rfl (by kernel_rfl) Try.func5 (by kernel_rfl)
    (of_decide_eq_true (by kernel_rfl)) (by unfold Func.isWrapper; first | (rw [if_pos (by decide +kernel)]; kernel_rfl) | (rw [if_neg (by decide +kernel)]; exact ⟨rfl, rfl⟩))
    (fun os started H enc _ => lifted_of (s := Rows.fnExactNewRateControlSpec) (conds := Rows.fnExactNewRateControlRow.domain) os started H enc (by kernel_rfl) Try.func5
      (ChangeSpec.witness6 (enc := enc) (C := Try.checked) false ⟨#[], #[.int .i64 0], []⟩ 8 (by kernel_rfl) (by kernel_rfl) (by kernel_rfl) (by kernel_rfl))
      (by kernel_rfl) rfl (by kernel_rfl) (fun ds h => by match ds, h with | [d], _ => rfl) walk)

theorem proved : Rows.FnExactNewRateControlSaid := over
#print axioms proved
end Go.Proofs.Ytdekbjaejlhkcaa.fnExactNewRateControl
