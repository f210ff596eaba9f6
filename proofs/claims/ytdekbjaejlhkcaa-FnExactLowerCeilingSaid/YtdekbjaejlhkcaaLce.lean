/-
  LowerCeiling of the program returns what the reference's returns, for every argument.
-/
import Derived.Test.YtdekbjaejlhkcaaEqCtl
import Derived.Test.YtdekbjaejlhkcaaLow
namespace Go.Proofs.Ytdekbjaejlhkcaa.fnExactLowerCeiling
open Go.ChangeShapes Go.WideShapes Go.ChangeAt Go.RowKit

theorem form (r c k l s m : Int) : ∃ r' c' k' l' s' : Int, lcv r c k l s m = ctl r' c' k' l' s' := by
  unfold lcv
  split
  · exact ⟨_, _, _, _, _, rfl⟩
  · exact ⟨_, _, _, _, _, rfl⟩
theorem impl' {r c k l s m : Int} {v : Value} (h : lcv r c k l s m = v) (hm : m ≤ 9223372036854775807) (w : World) : Calls Try.prog 24 #[ctl r c k l s, .int .i64 m] w fun e w' => e = .returned v ∧ Ext w w' := by rw [← h]; exact low_impl _ _ _ _ _ _ hm _
theorem spec' {r c k l s m : Int} {v : Value} (h : lcv r c k l s m = v) (hm : m ≤ 9223372036854775807) (w : World) : Calls Try.prog 23 #[ctl r c k l s, .int .i64 m] w fun e w' => e = .returned v ∧ Ext w w' := by rw [← h]; exact low_spec _ _ _ _ _ _ hm _

set_option maxHeartbeats 800000 in
theorem law (r c k l s m : Int) (hm : m ≤ 9223372036854775807) (w : World) :
    Calls Try.prog 8 #[ctl r c k l s, .int .i64 m] w fun e w' => e = .returned (.bool true) ∧ Ext w w' := by
  obtain ⟨r', c', k', l', s', h⟩ := form r c k l s m
  have H := Lib.hid h
  clear h
  go_enter Try.func8, Try.ntmps8
  go_wp2_with fail
  refine (to_ctl _ _ _ _ _ _).mono ?_
  rintro e w1 ⟨rfl, b1⟩
  obtain ⟨c1, f1⟩ := b1.cells
  have z1 := b1.size
  try simp only [World.size_alloc] at c1 f1 z1
  have y1_0 : w.heap.size < w1.heap.size := by omega
  have k1_0_0 : w1.cell? ⟨w.heap.size, 0, none⟩ = some (.int .i64 r) := (c1 _ _ (by omega)).trans (by go_simp)
  have g1_0_0 : w1.frozen? ⟨w.heap.size, 0, none⟩ = false := (f1 _ _ (by omega)).trans (by go_simp)
  have k1_0_1 : w1.cell? ⟨w.heap.size, 1, none⟩ = some (.int .i64 c) := (c1 _ _ (by omega)).trans (by go_simp)
  have g1_0_1 : w1.frozen? ⟨w.heap.size, 1, none⟩ = false := (f1 _ _ (by omega)).trans (by go_simp)
  have k1_0_2 : w1.cell? ⟨w.heap.size, 2, none⟩ = some (.int .i64 k) := (c1 _ _ (by omega)).trans (by go_simp)
  have g1_0_2 : w1.frozen? ⟨w.heap.size, 2, none⟩ = false := (f1 _ _ (by omega)).trans (by go_simp)
  have k1_0_3 : w1.cell? ⟨w.heap.size, 3, none⟩ = some (.int .i64 l) := (c1 _ _ (by omega)).trans (by go_simp)
  have g1_0_3 : w1.frozen? ⟨w.heap.size, 3, none⟩ = false := (f1 _ _ (by omega)).trans (by go_simp)
  have k1_0_4 : w1.cell? ⟨w.heap.size, 4, none⟩ = some (.int .i64 s) := (c1 _ _ (by omega)).trans (by go_simp)
  have g1_0_4 : w1.frozen? ⟨w.heap.size, 4, none⟩ = false := (f1 _ _ (by omega)).trans (by go_simp)
  clear c1 f1
  go_wp2_with fail
  refine (spec' H.out hm _).mono ?_
  rintro e w2 ⟨rfl, b2⟩
  obtain ⟨c2, f2⟩ := b2.cells
  have z2 := b2.size
  try simp only [World.size_alloc] at c2 f2 z2
  have y2_0 : w.heap.size < w2.heap.size := by omega
  have k2_0_0 : w2.cell? ⟨w.heap.size, 0, none⟩ = some (.int .i64 r) := (c2 _ _ (by omega)).trans (by go_simp)
  have g2_0_0 : w2.frozen? ⟨w.heap.size, 0, none⟩ = false := (f2 _ _ (by omega)).trans (by go_simp)
  have k2_0_1 : w2.cell? ⟨w.heap.size, 1, none⟩ = some (.int .i64 c) := (c2 _ _ (by omega)).trans (by go_simp)
  have g2_0_1 : w2.frozen? ⟨w.heap.size, 1, none⟩ = false := (f2 _ _ (by omega)).trans (by go_simp)
  have k2_0_2 : w2.cell? ⟨w.heap.size, 2, none⟩ = some (.int .i64 k) := (c2 _ _ (by omega)).trans (by go_simp)
  have g2_0_2 : w2.frozen? ⟨w.heap.size, 2, none⟩ = false := (f2 _ _ (by omega)).trans (by go_simp)
  have k2_0_3 : w2.cell? ⟨w.heap.size, 3, none⟩ = some (.int .i64 l) := (c2 _ _ (by omega)).trans (by go_simp)
  have g2_0_3 : w2.frozen? ⟨w.heap.size, 3, none⟩ = false := (f2 _ _ (by omega)).trans (by go_simp)
  have k2_0_4 : w2.cell? ⟨w.heap.size, 4, none⟩ = some (.int .i64 s) := (c2 _ _ (by omega)).trans (by go_simp)
  have g2_0_4 : w2.frozen? ⟨w.heap.size, 4, none⟩ = false := (f2 _ _ (by omega)).trans (by go_simp)
  clear c2 f2
  go_wp2_with fail
  refine (to_ctl _ _ _ _ _ _).mono ?_
  rintro e w3 ⟨rfl, b3⟩
  obtain ⟨c3, f3⟩ := b3.cells
  have z3 := b3.size
  try simp only [World.size_alloc] at c3 f3 z3
  have y3_0 : w.heap.size < w3.heap.size := by omega
  have k3_0_0 : w3.cell? ⟨w.heap.size, 0, none⟩ = some (.int .i64 r) := (c3 _ _ (by omega)).trans (by go_simp)
  have g3_0_0 : w3.frozen? ⟨w.heap.size, 0, none⟩ = false := (f3 _ _ (by omega)).trans (by go_simp)
  have k3_0_1 : w3.cell? ⟨w.heap.size, 1, none⟩ = some (.int .i64 c) := (c3 _ _ (by omega)).trans (by go_simp)
  have g3_0_1 : w3.frozen? ⟨w.heap.size, 1, none⟩ = false := (f3 _ _ (by omega)).trans (by go_simp)
  have k3_0_2 : w3.cell? ⟨w.heap.size, 2, none⟩ = some (.int .i64 k) := (c3 _ _ (by omega)).trans (by go_simp)
  have g3_0_2 : w3.frozen? ⟨w.heap.size, 2, none⟩ = false := (f3 _ _ (by omega)).trans (by go_simp)
  have k3_0_3 : w3.cell? ⟨w.heap.size, 3, none⟩ = some (.int .i64 l) := (c3 _ _ (by omega)).trans (by go_simp)
  have g3_0_3 : w3.frozen? ⟨w.heap.size, 3, none⟩ = false := (f3 _ _ (by omega)).trans (by go_simp)
  have k3_0_4 : w3.cell? ⟨w.heap.size, 4, none⟩ = some (.int .i64 s) := (c3 _ _ (by omega)).trans (by go_simp)
  have g3_0_4 : w3.frozen? ⟨w.heap.size, 4, none⟩ = false := (f3 _ _ (by omega)).trans (by go_simp)
  have y3_1 : w2.heap.size < w3.heap.size := by omega
  have k3_1_0 : w3.cell? ⟨w2.heap.size, 0, none⟩ = some (.int .i64 r') := (c3 _ _ (by omega)).trans (by go_simp)
  have g3_1_0 : w3.frozen? ⟨w2.heap.size, 0, none⟩ = false := (f3 _ _ (by omega)).trans (by go_simp)
  have k3_1_1 : w3.cell? ⟨w2.heap.size, 1, none⟩ = some (.int .i64 c') := (c3 _ _ (by omega)).trans (by go_simp)
  have g3_1_1 : w3.frozen? ⟨w2.heap.size, 1, none⟩ = false := (f3 _ _ (by omega)).trans (by go_simp)
  have k3_1_2 : w3.cell? ⟨w2.heap.size, 2, none⟩ = some (.int .i64 k') := (c3 _ _ (by omega)).trans (by go_simp)
  have g3_1_2 : w3.frozen? ⟨w2.heap.size, 2, none⟩ = false := (f3 _ _ (by omega)).trans (by go_simp)
  have k3_1_3 : w3.cell? ⟨w2.heap.size, 3, none⟩ = some (.int .i64 l') := (c3 _ _ (by omega)).trans (by go_simp)
  have g3_1_3 : w3.frozen? ⟨w2.heap.size, 3, none⟩ = false := (f3 _ _ (by omega)).trans (by go_simp)
  have k3_1_4 : w3.cell? ⟨w2.heap.size, 4, none⟩ = some (.int .i64 s') := (c3 _ _ (by omega)).trans (by go_simp)
  have g3_1_4 : w3.frozen? ⟨w2.heap.size, 4, none⟩ = false := (f3 _ _ (by omega)).trans (by go_simp)
  clear c3 f3
  go_wp2_with fail
  refine (impl' H.out hm _).mono ?_
  rintro e w4 ⟨rfl, b4⟩
  obtain ⟨c4, f4⟩ := b4.cells
  have z4 := b4.size
  try simp only [World.size_alloc] at c4 f4 z4
  have y4_0 : w2.heap.size < w4.heap.size := by omega
  have k4_0_0 : w4.cell? ⟨w2.heap.size, 0, none⟩ = some (.int .i64 r') := (c4 _ _ (by omega)).trans (by go_simp)
  have g4_0_0 : w4.frozen? ⟨w2.heap.size, 0, none⟩ = false := (f4 _ _ (by omega)).trans (by go_simp)
  have k4_0_1 : w4.cell? ⟨w2.heap.size, 1, none⟩ = some (.int .i64 c') := (c4 _ _ (by omega)).trans (by go_simp)
  have g4_0_1 : w4.frozen? ⟨w2.heap.size, 1, none⟩ = false := (f4 _ _ (by omega)).trans (by go_simp)
  have k4_0_2 : w4.cell? ⟨w2.heap.size, 2, none⟩ = some (.int .i64 k') := (c4 _ _ (by omega)).trans (by go_simp)
  have g4_0_2 : w4.frozen? ⟨w2.heap.size, 2, none⟩ = false := (f4 _ _ (by omega)).trans (by go_simp)
  have k4_0_3 : w4.cell? ⟨w2.heap.size, 3, none⟩ = some (.int .i64 l') := (c4 _ _ (by omega)).trans (by go_simp)
  have g4_0_3 : w4.frozen? ⟨w2.heap.size, 3, none⟩ = false := (f4 _ _ (by omega)).trans (by go_simp)
  have k4_0_4 : w4.cell? ⟨w2.heap.size, 4, none⟩ = some (.int .i64 s') := (c4 _ _ (by omega)).trans (by go_simp)
  have g4_0_4 : w4.frozen? ⟨w2.heap.size, 4, none⟩ = false := (f4 _ _ (by omega)).trans (by go_simp)
  clear c4 f4
  go_wp2_with fail
  refine (eq_ctl _ _ _ _ _ _).mono ?_
  rintro e w5 ⟨rfl, b5⟩
  obtain ⟨c5, f5⟩ := b5.cells
  have z5 := b5.size
  try simp only [World.size_alloc] at c5 f5 z5
  go_wp2_with fail
  go_ret
  refine ⟨rfl, ?_⟩
  repeat (first | with_reducible exact Ext.refl _ | with_reducible assumption | with_reducible refine Ext.alloc ?_ _ | with_reducible refine Ext.drew ?_ | with_reducible refine Ext.drewN ?_ _ | (with_reducible refine Ext.setCell ?_ ?hle _; case hle => (first | (with_reducible exact Nat.le_refl _) | omega | (dsimp only; omega) | (simp only [World.size_alloc]; omega))) | with_reducible refine Ext.trans ?_ (by with_reducible assumption))

theorem walk : LawWalk 8 Try.f8 := by
  intro H enc W base args ds p hval hA
  rw [Try.params8] at hA hval
  obtain ⟨v0, vs0, d0, ds0, p0, q0, hargs, rfl, rfl, h0, r0⟩ := trodAll_cons hA
  obtain ⟨v1, vs1, d1, ds1, p1, q1, rfl, rfl, rfl, h1, r1⟩ := trodAll_cons r0
  obtain ⟨rfl, rfl, rfl⟩ := trodAll_nil r1
  obtain rfl : args = #[v0, v1] := by cases args; simp_all
  obtain ⟨r, c, k, l, s, rfl⟩ := open_ctl (hval 0 _ v0 rfl rfl) h0
  obtain ⟨m, rfl, l_m, u_m⟩ := outer_int Try.underlying3 (hval 1 _ v1 rfl rfl) h1
  exact law r c k l s m u_m W

set_option maxRecDepth 100000 in
theorem over : Rows.fnExactLowerCeilingRow.holds Try.pinned (OpenSpec.ofChange Rows.fnExactLowerCeilingSpec) :=
  OpenClaim.holds_of_wide 8 Try.f8 rfl rfl rfl rfl rfl rfl rfl ⟨rfl, rfl, rfl, rfl, rfl⟩ rfl rfl rfl rfl rfl (by kernel_rfl) Try.func8 (by kernel_rfl)
    (of_decide_eq_true (by kernel_rfl)) (by unfold Func.isWrapper; first | (rw [if_pos (by decide +kernel)]; kernel_rfl) | (rw [if_neg (by decide +kernel)]; exact ⟨rfl, rfl⟩))
    (fun os started H enc _ => lifted_of (s := Rows.fnExactLowerCeilingSpec) (conds := Rows.fnExactLowerCeilingRow.domain) os started H enc (by kernel_rfl) Try.func8
      (ChangeSpec.witness6 (enc := enc) (C := Try.checked) false ⟨#[], #[.agg #[.int .i64 0, .int .i64 0, .int .i64 0, .int .i64 0, .int .i64 0], .int .i64 0], []⟩ 8 (by kernel_rfl) (by kernel_rfl) (by kernel_rfl) (by kernel_rfl))
      (by kernel_rfl) rfl (by kernel_rfl) (fun ds h => by match ds, h with | [d1, d2], _ => rfl) walk)

theorem proved : Rows.FnExactLowerCeilingSaid := over
#print axioms proved
end Go.Proofs.Ytdekbjaejlhkcaa.fnExactLowerCeiling
