/-
  RoundsToSend of the program returns what the reference's returns, for every argument.
-/
import Derived.Test.YtdekbjaejlhkcaaRnd
namespace Go.Proofs.Ytdekbjaejlhkcaa.fnExactRoundsToSend
open Go.ChangeShapes Go.WideShapes Go.ChangeAt Go.RowKit
set_option maxHeartbeats 800000 in
theorem law (r c k l s m : Int) (w : World) :
    Calls Try.prog 6 #[ctl r c k l s, .int .i64 m] w fun e w' => e = .returned (.bool true) ∧ Ext w w' := by
  go_enter Try.func6, Try.ntmps6
  go_wp2_with fail
  refine (to_ctl _ _ _ _ _ _).mono ?_
  rintro e w1 ⟨rfl, b1⟩
  obtain ⟨c1, f1⟩ := b1.cells
  have z1 := b1.size
  try simp only [World.size_alloc] at c1 f1 z1
  have y1_0 : w.heap.size < w1.heap.size := by omega
  have k1_0_0 : w1.cell? ⟨w.heap.size, 0, none⟩ = some (.int .i64 r) := (c1 _ _ (by omega)).trans (by go_simp)
  have g1_0_0 : w1.frozen? ⟨w.heap.size, 0, none⟩ = false := (f1 _ _ (by omega)).trans (by go_simp)
  have k1_0_1 : w1.cell? ⟨w.heap.size, 1, none⟩ = some (.int .i64 c) := (c1 _ _ (by omega)).trans (by go_simp)
  have g1_0_1 : w1.frozen? ⟨w.heap.size, 1, none⟩ = false := (f1 _ _ (by omega)).trans (by go_simp)
  have k1_0_2 : w1.cell? ⟨w.heap.size, 2, none⟩ = some (.int .i64 k) := (c1 _ _ (by omega)).trans (by go_simp)
  have g1_0_2 : w1.frozen? ⟨w.heap.size, 2, none⟩ = false := (f1 _ _ (by omega)).trans (by go_simp)
  have k1_0_3 : w1.cell? ⟨w.heap.size, 3, none⟩ = some (.int .i64 l) := (c1 _ _ (by omega)).trans (by go_simp)
  have g1_0_3 : w1.frozen? ⟨w.heap.size, 3, none⟩ = false := (f1 _ _ (by omega)).trans (by go_simp)
  have k1_0_4 : w1.cell? ⟨w.heap.size, 4, none⟩ = some (.int .i64 s) := (c1 _ _ (by omega)).trans (by go_simp)
  have g1_0_4 : w1.frozen? ⟨w.heap.size, 4, none⟩ = false := (f1 _ _ (by omega)).trans (by go_simp)
  clear c1 f1
  go_wp2_with fail
  refine (rounds_spec _ _ _ _ _ _ _).mono ?_
  rintro e w2 ⟨rfl, b2⟩
  obtain ⟨c2, f2⟩ := b2.cells
  have z2 := b2.size
  try simp only [World.size_alloc] at c2 f2 z2
  have y2_0 : w.heap.size < w2.heap.size := by omega
  have k2_0_0 : w2.cell? ⟨w.heap.size, 0, none⟩ = some (.int .i64 r) := (c2 _ _ (by omega)).trans (by go_simp)
  have g2_0_0 : w2.frozen? ⟨w.heap.size, 0, none⟩ = false := (f2 _ _ (by omega)).trans (by go_simp)
  have k2_0_1 : w2.cell? ⟨w.heap.size, 1, none⟩ = some (.int .i64 c) := (c2 _ _ (by omega)).trans (by go_simp)
  have g2_0_1 : w2.frozen? ⟨w.heap.size, 1, none⟩ = false := (f2 _ _ (by omega)).trans (by go_simp)
  have k2_0_2 : w2.cell? ⟨w.heap.size, 2, none⟩ = some (.int .i64 k) := (c2 _ _ (by omega)).trans (by go_simp)
  have g2_0_2 : w2.frozen? ⟨w.heap.size, 2, none⟩ = false := (f2 _ _ (by omega)).trans (by go_simp)
  have k2_0_3 : w2.cell? ⟨w.heap.size, 3, none⟩ = some (.int .i64 l) := (c2 _ _ (by omega)).trans (by go_simp)
  have g2_0_3 : w2.frozen? ⟨w.heap.size, 3, none⟩ = false := (f2 _ _ (by omega)).trans (by go_simp)
  have k2_0_4 : w2.cell? ⟨w.heap.size, 4, none⟩ = some (.int .i64 s) := (c2 _ _ (by omega)).trans (by go_simp)
  have g2_0_4 : w2.frozen? ⟨w.heap.size, 4, none⟩ = false := (f2 _ _ (by omega)).trans (by go_simp)
  clear c2 f2
  go_wp2_with fail
  refine (to_ctl _ _ _ _ _ _).mono ?_
  rintro e w3 ⟨rfl, b3⟩
  obtain ⟨c3, f3⟩ := b3.cells
  have z3 := b3.size
  try simp only [World.size_alloc] at c3 f3 z3
  have y3_0 : w.heap.size < w3.heap.size := by omega
  have k3_0_0 : w3.cell? ⟨w.heap.size, 0, none⟩ = some (.int .i64 r) := (c3 _ _ (by omega)).trans (by go_simp)
  have g3_0_0 : w3.frozen? ⟨w.heap.size, 0, none⟩ = false := (f3 _ _ (by omega)).trans (by go_simp)
  have k3_0_1 : w3.cell? ⟨w.heap.size, 1, none⟩ = some (.int .i64 c) := (c3 _ _ (by omega)).trans (by go_simp)
  have g3_0_1 : w3.frozen? ⟨w.heap.size, 1, none⟩ = false := (f3 _ _ (by omega)).trans (by go_simp)
  have k3_0_2 : w3.cell? ⟨w.heap.size, 2, none⟩ = some (.int .i64 k) := (c3 _ _ (by omega)).trans (by go_simp)
  have g3_0_2 : w3.frozen? ⟨w.heap.size, 2, none⟩ = false := (f3 _ _ (by omega)).trans (by go_simp)
  have k3_0_3 : w3.cell? ⟨w.heap.size, 3, none⟩ = some (.int .i64 l) := (c3 _ _ (by omega)).trans (by go_simp)
  have g3_0_3 : w3.frozen? ⟨w.heap.size, 3, none⟩ = false := (f3 _ _ (by omega)).trans (by go_simp)
  have k3_0_4 : w3.cell? ⟨w.heap.size, 4, none⟩ = some (.int .i64 s) := (c3 _ _ (by omega)).trans (by go_simp)
  have g3_0_4 : w3.frozen? ⟨w.heap.size, 4, none⟩ = false := (f3 _ _ (by omega)).trans (by go_simp)
  clear c3 f3
  go_wp2_with fail
  refine (rounds_impl _ _ _ _ _ _ _).mono ?_
  rintro e w4 ⟨rfl, b4⟩
  obtain ⟨c4, f4⟩ := b4.cells
  have z4 := b4.size
  try simp only [World.size_alloc] at c4 f4 z4
  go_wp2_with fail
  go_ret
  refine ⟨rfl, ?_⟩
  repeat (first | with_reducible exact Ext.refl _ | with_reducible assumption | with_reducible refine Ext.alloc ?_ _ | with_reducible refine Ext.drew ?_ | with_reducible refine Ext.drewN ?_ _ | (with_reducible refine Ext.setCell ?_ ?hle _; case hle => (first | (with_reducible exact Nat.le_refl _) | omega | (dsimp only; omega) | (simp only [World.size_alloc]; omega))) | with_reducible refine Ext.trans ?_ (by with_reducible assumption))

theorem walk : LawWalk 6 Try.f6 := by
  intro H enc W base args ds p hval hA
  rw [Try.params6] at hA hval
  obtain ⟨v0, vs0, d0, ds0, p0, q0, hargs, rfl, rfl, h0, r0⟩ := trodAll_cons hA
  obtain ⟨v1, vs1, d1, ds1, p1, q1, rfl, rfl, rfl, h1, r1⟩ := trodAll_cons r0
  obtain ⟨rfl, rfl, rfl⟩ := trodAll_nil r1
  obtain rfl : args = #[v0, v1] := by cases args; simp_all
  obtain ⟨r, c, k, l, s, rfl⟩ := open_ctl (hval 0 _ v0 rfl rfl) h0
  obtain ⟨m, rfl, l_m, u_m⟩ := outer_int Try.underlying3 (hval 1 _ v1 rfl rfl) h1
  exact law r c k l s m W

set_option maxRecDepth 100000 in
theorem over : Rows.fnExactRoundsToSendRow.holds Try.pinned (OpenSpec.ofChange Rows.fnExactRoundsToSendSpec) :=
  OpenClaim.holds_of_wide 6 Try.f6 rfl rfl rfl rfl rfl rfl rfl ⟨rfl, rfl, rfl, rfl, rfl⟩ rfl rfl rfl rfl rfl (by kernel_rfl) Try.func6 (by kernel_rfl)
    (of_decide_eq_true (by kernel_rfl)) (by unfold Func.isWrapper; first | (rw [if_pos (by decide +kernel)]; kernel_rfl) | (rw [if_neg (by decide +kernel)]; exact ⟨rfl, rfl⟩))
    (fun os started H enc _ => lifted_of (s := Rows.fnExactRoundsToSendSpec) (conds := Rows.fnExactRoundsToSendRow.domain) os started H enc (by kernel_rfl) Try.func6
      (ChangeSpec.witness6 (enc := enc) (C := Try.checked) false ⟨#[], #[.agg #[.int .i64 0, .int .i64 0, .int .i64 0, .int .i64 0, .int .i64 0], .int .i64 0], []⟩ 8 (by kernel_rfl) (by kernel_rfl) (by kernel_rfl) (by kernel_rfl))
      (by kernel_rfl) rfl (by kernel_rfl) (fun ds h => by match ds, h with | [d1, d2], _ => rfl) walk)

theorem proved : Rows.FnExactRoundsToSendSaid := over
#print axioms proved
end Go.Proofs.Ytdekbjaejlhkcaa.fnExactRoundsToSend
