/-
  NewPrices of the program returns what the reference's returns, for every argument.
-/
import Derived.Test.YtefkjkbipkcncaaNewP
import Derived.Test.YtefkjkbipkcncaaChg
import Derived.Deep.RegionHeld3
namespace Go.Proofs.Ytefkjkbipkcncaa.fnExactNewPrices
open Go.ChangeShapes Go.WideShapes Go.ChangeAt Go.RowKit
set_option linter.unusedVariables false
set_option maxHeartbeats 6400000 in
theorem law (sz0 : Int) (A0 : Option Addr) (n0 cp0 : Nat) (xs0 : List Tri) (hn0 : n0 ≤ 9223372036854775807) (w : World) (hr0 : Rd w 3 A0 n0 (tris xs0)) :
    Calls Try.prog 8 #[.agg #[.int .i64 sz0, .slice A0 n0 cp0]] w fun e w' => e = .returned (.bool true) ∧ Ext w w' := by
  obtain ⟨W, hW⟩ : ∃ W, (w.alloc (.cells #[.int .i64 sz0, .slice A0 n0 cp0] 37)) = W := ⟨_, rfl⟩
  have HW := Lib.hid hW
  have eW : Ext w W := by rw [← hW]; (repeat (first | with_reducible exact Ext.refl _ | with_reducible assumption | with_reducible refine Ext.alloc ?_ _ | with_reducible refine Ext.drew ?_ | with_reducible refine Ext.drewN ?_ _ | (with_reducible refine Ext.setCell' ?_ ?_ _; (first | (with_reducible exact Nat.le_refl _) | omega | (dsimp only; omega) | (simp only [World.size_alloc]; omega))) | (with_reducible apply Ext.trans'; with_reducible assumption) | exact (Ext.refl _).drew | (refine Ext.drew ?_; assumption)))
  clear hW
  have zW0 : w.heap.size < W.heap.size := by rw [← HW.out]; simp
  have kW_0_0 : W.cell? ⟨w.heap.size, 0, none⟩ = some (.int .i64 sz0) := by rw [← HW.out]; go_simp
  have kW_0_1 : W.cell? ⟨w.heap.size, 1, none⟩ = some (.slice A0 n0 cp0) := by rw [← HW.out]; go_simp
  have HR0 := Lib.hid (hr0.ext eW)
  clear hr0
  by_cases hg0 : (1048576 : Int) < n0
  case pos =>
    have hs0 := fun w' => sz_graph sz0 A0 n0 cp0 hn0 (1048576 : Int) (by omega) (by omega) w'
    simp only [if_pos hg0] at hs0
    have HS0 := Lib.hid hs0
    clear hs0
    go_enter Try.func8, Try.ntmps8
    go_wp2_with fail
    rw [HW.out]
    go_wp2_with fail
    refine (HS0.out _).mono ?_
    rintro e w1 ⟨rfl, b1⟩
    obtain ⟨c1, f1⟩ := b1.cells
    have z1 := b1.size
    try simp only [World.size_alloc] at c1 f1 z1
    have y1_0 : w.heap.size < w1.heap.size := by omega
    have k1_0_0 : w1.cell? ⟨w.heap.size, 0, none⟩ = some (.int .i64 sz0) := (c1 _ _ (by omega)).trans (by first | assumption | go_simp)
    have k1_0_1 : w1.cell? ⟨w.heap.size, 1, none⟩ = some (.slice A0 n0 cp0) := (c1 _ _ (by omega)).trans (by first | assumption | go_simp)
    clear c1 f1
    go_wp2_with fail
    go_ret
    refine ⟨rfl, ?_⟩
    (repeat (first | with_reducible exact Ext.refl _ | with_reducible assumption | with_reducible refine Ext.alloc ?_ _ | with_reducible refine Ext.drew ?_ | with_reducible refine Ext.drewN ?_ _ | (with_reducible refine Ext.setCell' ?_ ?_ _; (first | (with_reducible exact Nat.le_refl _) | omega | (dsimp only; omega) | (simp only [World.size_alloc]; omega))) | (with_reducible apply Ext.trans'; with_reducible assumption) | exact (Ext.refl _).drew | (refine Ext.drew ?_; assumption)))
  have hs0 := fun w' => sz_graph sz0 A0 n0 cp0 hn0 (1048576 : Int) (by omega) (by omega) w'
  simp only [if_neg hg0] at hs0
  have HS0 := Lib.hid hs0
  clear hs0
  have hsm0 : n0 ≤ 1048576 := by omega
  have hdn : (zerosD n0).length ≤ 1048576 := by rw [zerosD_len]; omega
  go_enter Try.func8, Try.ntmps8
  go_wp2_with fail
  rw [HW.out]
  go_wp2_with fail
  refine (HS0.out _).mono ?_
  rintro e w1 ⟨rfl, b1⟩
  obtain ⟨c1, f1⟩ := b1.cells
  have z1 := b1.size
  try simp only [World.size_alloc] at c1 f1 z1
  have y1_0 : w.heap.size < w1.heap.size := by omega
  have k1_0_0 : w1.cell? ⟨w.heap.size, 0, none⟩ = some (.int .i64 sz0) := (c1 _ _ (by omega)).trans (by first | assumption | go_simp)
  have k1_0_1 : w1.cell? ⟨w.heap.size, 1, none⟩ = some (.slice A0 n0 cp0) := (c1 _ _ (by omega)).trans (by first | assumption | go_simp)
  clear c1 f1
  go_wp2_with fail
  refine (to_graph _ _ _ _ _ hsm0 _ (HR0.out.ext (by (repeat (first | with_reducible exact Ext.refl _ | with_reducible assumption | with_reducible refine Ext.alloc ?_ _ | with_reducible refine Ext.drew ?_ | with_reducible refine Ext.drewN ?_ _ | (with_reducible refine Ext.setCell' ?_ ?_ _; (first | (with_reducible exact Nat.le_refl _) | omega | (dsimp only; omega) | (simp only [World.size_alloc]; omega))) | (with_reducible apply Ext.trans'; with_reducible assumption) | exact (Ext.refl _).drew | (refine Ext.drew ?_; assumption)))))).mono ?_
  rintro e w2 ⟨gs0, hgs0, rfl, hos0, b2⟩
  obtain ⟨c2, f2⟩ := b2.cells
  have z2 := b2.size
  try simp only [World.size_alloc] at c2 f2 z2
  have y2_0 : w.heap.size < w2.heap.size := by omega
  have k2_0_0 : w2.cell? ⟨w.heap.size, 0, none⟩ = some (.int .i64 sz0) := (c2 _ _ (by omega)).trans (by first | assumption | go_simp)
  have k2_0_1 : w2.cell? ⟨w.heap.size, 1, none⟩ = some (.slice A0 n0 cp0) := (c2 _ _ (by omega)).trans (by first | assumption | go_simp)
  clear c2 f2
  have HOs0 := Lib.hid (Rd.of_own hos0)
  clear hos0 hgs0
  go_wp2_with fail
  refine (newp_spec _ _ _ _ hsm0 _).mono ?_
  rintro e w3 ⟨Aw0, cw0, rfl, hiw0, b3⟩
  obtain ⟨c3, f3⟩ := b3.cells
  have z3 := b3.size
  try simp only [World.size_alloc] at c3 f3 z3
  have y3_0 : w.heap.size < w3.heap.size := by omega
  have k3_0_0 : w3.cell? ⟨w.heap.size, 0, none⟩ = some (.int .i64 sz0) := (c3 _ _ (by omega)).trans (by first | assumption | go_simp)
  have k3_0_1 : w3.cell? ⟨w.heap.size, 1, none⟩ = some (.slice A0 n0 cp0) := (c3 _ _ (by omega)).trans (by first | assumption | go_simp)
  clear c3 f3
  try simp only [World.size_alloc] at hiw0
  have Hw0 := Lib.hid hiw0
  clear hiw0
  go_wp2_with fail
  refine (to_graph _ _ _ _ _ hsm0 _ (HR0.out.ext (by (repeat (first | with_reducible exact Ext.refl _ | with_reducible assumption | with_reducible refine Ext.alloc ?_ _ | with_reducible refine Ext.drew ?_ | with_reducible refine Ext.drewN ?_ _ | (with_reducible refine Ext.setCell' ?_ ?_ _; (first | (with_reducible exact Nat.le_refl _) | omega | (dsimp only; omega) | (simp only [World.size_alloc]; omega))) | (with_reducible apply Ext.trans'; with_reducible assumption) | exact (Ext.refl _).drew | (refine Ext.drew ?_; assumption)))))).mono ?_
  rintro e w4 ⟨gx0, hgx0, rfl, hox0, b4⟩
  obtain ⟨c4, f4⟩ := b4.cells
  have z4 := b4.size
  try simp only [World.size_alloc] at c4 f4 z4
  have y4_0 : w.heap.size < w4.heap.size := by omega
  have k4_0_0 : w4.cell? ⟨w.heap.size, 0, none⟩ = some (.int .i64 sz0) := (c4 _ _ (by omega)).trans (by first | assumption | go_simp)
  have k4_0_1 : w4.cell? ⟨w.heap.size, 1, none⟩ = some (.slice A0 n0 cp0) := (c4 _ _ (by omega)).trans (by first | assumption | go_simp)
  have y4_1 : w3.heap.size < w4.heap.size := by omega
  have k4_1_0 : w4.cell? ⟨w3.heap.size, 0, none⟩ = some (.slice Aw0 (zerosD n0).length cw0) := (c4 _ _ (by omega)).trans (by first | assumption | go_simp)
  clear c4 f4
  have hix0 := In.of_own hox0
  try simp only [World.size_alloc] at hix0
  have Hx0 := Lib.hid hix0
  clear hox0 hix0
  try simp only [World.size_alloc] at hgx0
  go_wp2_with fail
  refine (newp_impl _ _ _ _ hsm0 _).mono ?_
  rintro e w5 ⟨Ag0, cg0, rfl, hig0, b5⟩
  obtain ⟨c5, f5⟩ := b5.cells
  have z5 := b5.size
  try simp only [World.size_alloc] at c5 f5 z5
  have y5_0 : w.heap.size < w5.heap.size := by omega
  have k5_0_0 : w5.cell? ⟨w.heap.size, 0, none⟩ = some (.int .i64 sz0) := (c5 _ _ (by omega)).trans (by first | assumption | go_simp)
  have k5_0_1 : w5.cell? ⟨w.heap.size, 1, none⟩ = some (.slice A0 n0 cp0) := (c5 _ _ (by omega)).trans (by first | assumption | go_simp)
  have y5_1 : w3.heap.size < w5.heap.size := by omega
  have k5_1_0 : w5.cell? ⟨w3.heap.size, 0, none⟩ = some (.slice Aw0 (zerosD n0).length cw0) := (c5 _ _ (by omega)).trans (by first | assumption | go_simp)
  have y5_2 : w4.heap.size < w5.heap.size := by omega
  have k5_2_0 : w5.cell? ⟨w4.heap.size, 0, none⟩ = some (.int .i64 sz0) := (c5 _ _ (by omega)).trans (by first | assumption | go_simp)
  have k5_2_1 : w5.cell? ⟨w4.heap.size, 1, none⟩ = some (.slice (some ⟨gx0, 0, none⟩) n0 n0) := (c5 _ _ (by omega)).trans (by first | assumption | go_simp)
  clear c5 f5
  try simp only [World.size_alloc] at hig0
  have Hg0 := Lib.hid hig0
  clear hig0
  go_wp2_with fail
  refine (eq_prices _ _ _ _ _ _ hdn _ (In.rd (Hg0.out.ext (by (repeat (first | with_reducible exact Ext.refl _ | with_reducible assumption | with_reducible refine Ext.alloc ?_ _ | with_reducible refine Ext.drew ?_ | with_reducible refine Ext.drewN ?_ _ | (with_reducible refine Ext.setCell' ?_ ?_ _; (first | (with_reducible exact Nat.le_refl _) | omega | (dsimp only; omega) | (simp only [World.size_alloc]; omega))) | (with_reducible apply Ext.trans'; with_reducible assumption) | exact (Ext.refl _).drew | (refine Ext.drew ?_; assumption)))))) (In.rd (Hw0.out.ext (by (repeat (first | with_reducible exact Ext.refl _ | with_reducible assumption | with_reducible refine Ext.alloc ?_ _ | with_reducible refine Ext.drew ?_ | with_reducible refine Ext.drewN ?_ _ | (with_reducible refine Ext.setCell' ?_ ?_ _; (first | (with_reducible exact Nat.le_refl _) | omega | (dsimp only; omega) | (simp only [World.size_alloc]; omega))) | (with_reducible apply Ext.trans'; with_reducible assumption) | exact (Ext.refl _).drew | (refine Ext.drew ?_; assumption))))))).mono ?_
  rintro e w6 ⟨rfl, b6⟩
  obtain ⟨c6, f6⟩ := b6.cells
  have z6 := b6.size
  try simp only [World.size_alloc] at c6 f6 z6
  have y6_0 : w.heap.size < w6.heap.size := by omega
  have k6_0_0 : w6.cell? ⟨w.heap.size, 0, none⟩ = some (.int .i64 sz0) := (c6 _ _ (by omega)).trans (by first | assumption | go_simp)
  have k6_0_1 : w6.cell? ⟨w.heap.size, 1, none⟩ = some (.slice A0 n0 cp0) := (c6 _ _ (by omega)).trans (by first | assumption | go_simp)
  have y6_1 : w3.heap.size < w6.heap.size := by omega
  have k6_1_0 : w6.cell? ⟨w3.heap.size, 0, none⟩ = some (.slice Aw0 (zerosD n0).length cw0) := (c6 _ _ (by omega)).trans (by first | assumption | go_simp)
  have y6_2 : w4.heap.size < w6.heap.size := by omega
  have k6_2_0 : w6.cell? ⟨w4.heap.size, 0, none⟩ = some (.int .i64 sz0) := (c6 _ _ (by omega)).trans (by first | assumption | go_simp)
  have k6_2_1 : w6.cell? ⟨w4.heap.size, 1, none⟩ = some (.slice (some ⟨gx0, 0, none⟩) n0 n0) := (c6 _ _ (by omega)).trans (by first | assumption | go_simp)
  have y6_3 : w5.heap.size < w6.heap.size := by omega
  have k6_3_0 : w6.cell? ⟨w5.heap.size, 0, none⟩ = some (.slice Ag0 (zerosD n0).length cg0) := (c6 _ _ (by omega)).trans (by first | assumption | go_simp)
  clear c6 f6
  go_wp2_with fail
  go_region_held3 (fun w' => (w'.cell? ⟨w4.heap.size, 0, none⟩ = some (.int .i64 sz0) ∧ w'.cell? ⟨w4.heap.size, 1, none⟩ = some (.slice (some ⟨gx0, 0, none⟩) n0 n0) ∧ w'.cell? ⟨w.heap.size, 0, none⟩ = some (.int .i64 sz0) ∧ w'.cell? ⟨w.heap.size, 1, none⟩ = some (.slice A0 n0 cp0)) ∧ Ext w6 w') ((refine keepS ?_ (fun hX => ?_); (focus ((repeat (first | with_reducible exact Ext.refl _ | with_reducible assumption | with_reducible refine Ext.alloc ?_ _ | with_reducible refine Ext.drew ?_ | with_reducible refine Ext.drewN ?_ _ | (with_reducible refine Ext.setCell' ?_ ?_ _; (first | (with_reducible exact Nat.le_refl _) | omega | (dsimp only; omega) | (simp only [World.size_alloc]; omega))) | (with_reducible apply Ext.trans'; with_reducible assumption) | exact (Ext.refl _).drew | (refine Ext.drew ?_; assumption))); done)); (refine ⟨?_, ?_, ?_, ?_⟩ <;> (refine (hX.cell _ _ ?_).trans ?_; omega; assumption)))) (first | (go_at_call 26; refine (to_graph _ _ _ _ _ hsm0 _ (HR0.out.ext (by (repeat (first | with_reducible exact Ext.refl _ | with_reducible assumption | with_reducible refine Ext.alloc ?_ _ | with_reducible refine Ext.drew ?_ | with_reducible refine Ext.drewN ?_ _ | (with_reducible refine Ext.setCell' ?_ ?_ _; (first | (with_reducible exact Nat.le_refl _) | omega | (dsimp only; omega) | (simp only [World.size_alloc]; omega))) | (with_reducible apply Ext.trans'; with_reducible assumption) | exact (Ext.refl _).drew | (refine Ext.drew ?_; assumption)))))).mono ?_; rintro e vy0 ⟨gy0, _, rfl, hoy0, bvy0⟩; have xvy0 : Ext w6 vy0 := (by (repeat (first | with_reducible exact Ext.refl _ | with_reducible assumption | with_reducible refine Ext.alloc ?_ _ | with_reducible refine Ext.drew ?_ | with_reducible refine Ext.drewN ?_ _ | (with_reducible refine Ext.setCell' ?_ ?_ _; (first | (with_reducible exact Nat.le_refl _) | omega | (dsimp only; omega) | (simp only [World.size_alloc]; omega))) | (with_reducible apply Ext.trans'; with_reducible assumption) | exact (Ext.refl _).drew | (refine Ext.drew ?_; assumption)))); have qvy0_0 := (xvy0.cell (w4.heap.size) (0) (by omega)).trans k6_2_0; have qvy0_1 := (xvy0.cell (w4.heap.size) (1) (by omega)).trans k6_2_1; have qvy0_2 := (xvy0.cell (w.heap.size) (0) (by omega)).trans k6_0_0; have qvy0_3 := (xvy0.cell (w.heap.size) (1) (by omega)).trans k6_0_1) | (go_at_call 29; refine (eq_graph _ _ _ _ _ _ _ hsm0 _ (In.rd (Hx0.out.ext (by (repeat (first | with_reducible exact Ext.refl _ | with_reducible assumption | with_reducible refine Ext.alloc ?_ _ | with_reducible refine Ext.drew ?_ | with_reducible refine Ext.drewN ?_ _ | (with_reducible refine Ext.setCell' ?_ ?_ _; (first | (with_reducible exact Nat.le_refl _) | omega | (dsimp only; omega) | (simp only [World.size_alloc]; omega))) | (with_reducible apply Ext.trans'; with_reducible assumption) | exact (Ext.refl _).drew | (refine Ext.drew ?_; assumption)))))) (Rd.of_own hoy0)).mono ?_; rintro e vz0 ⟨rfl, bvz0⟩; have xvz0 : Ext w6 vz0 := (by (repeat (first | with_reducible exact Ext.refl _ | with_reducible assumption | with_reducible refine Ext.alloc ?_ _ | with_reducible refine Ext.drew ?_ | with_reducible refine Ext.drewN ?_ _ | (with_reducible refine Ext.setCell' ?_ ?_ _; (first | (with_reducible exact Nat.le_refl _) | omega | (dsimp only; omega) | (simp only [World.size_alloc]; omega))) | (with_reducible apply Ext.trans'; with_reducible assumption) | exact (Ext.refl _).drew | (refine Ext.drew ?_; assumption)))); have qvz0_0 := (xvz0.cell (w4.heap.size) (0) (by omega)).trans k6_2_0; have qvz0_1 := (xvz0.cell (w4.heap.size) (1) (by omega)).trans k6_2_1; have qvz0_2 := (xvz0.cell (w.heap.size) (0) (by omega)).trans k6_0_0; have qvz0_3 := (xvz0.cell (w.heap.size) (1) (by omega)).trans k6_0_1))
  have b7 := xvz0
  have z7 := b7.size
  have z7vy0 := xvy0.size
  have y7_0 : w.heap.size < vz0.heap.size := by omega
  have k7_0_0 : vz0.cell? ⟨w.heap.size, 0, none⟩ = some (.int .i64 sz0) := (b7.cell _ _ (by omega)).trans k6_0_0
  have k7_0_1 : vz0.cell? ⟨w.heap.size, 1, none⟩ = some (.slice A0 n0 cp0) := (b7.cell _ _ (by omega)).trans k6_0_1
  have y7_1 : w3.heap.size < vz0.heap.size := by omega
  have k7_1_0 : vz0.cell? ⟨w3.heap.size, 0, none⟩ = some (.slice Aw0 (zerosD n0).length cw0) := (b7.cell _ _ (by omega)).trans k6_1_0
  have y7_2 : w4.heap.size < vz0.heap.size := by omega
  have k7_2_0 : vz0.cell? ⟨w4.heap.size, 0, none⟩ = some (.int .i64 sz0) := (b7.cell _ _ (by omega)).trans k6_2_0
  have k7_2_1 : vz0.cell? ⟨w4.heap.size, 1, none⟩ = some (.slice (some ⟨gx0, 0, none⟩) n0 n0) := (b7.cell _ _ (by omega)).trans k6_2_1
  have y7_3 : w5.heap.size < vz0.heap.size := by omega
  have k7_3_0 : vz0.cell? ⟨w5.heap.size, 0, none⟩ = some (.slice Ag0 (zerosD n0).length cg0) := (b7.cell _ _ (by omega)).trans k6_3_0
  have hM8 : In _ _ vz0 _ _ _ _ _ := Hx0.out.ext (by (repeat (first | with_reducible exact Ext.refl _ | with_reducible assumption | with_reducible refine Ext.alloc ?_ _ | with_reducible refine Ext.drew ?_ | with_reducible refine Ext.drewN ?_ _ | (with_reducible refine Ext.setCell' ?_ ?_ _; (first | (with_reducible exact Nat.le_refl _) | omega | (dsimp only; omega) | (simp only [World.size_alloc]; omega))) | (with_reducible apply Ext.trans'; with_reducible assumption) | exact (Ext.refl _).drew | (refine Ext.drew ?_; assumption))))
  have HM8 := Lib.hid hM8
  clear hM8
  go_wp2_with fail
  refine (mark_graph _ _ _ _ _ _ (1) (by omega) (by omega) _ (HM8.out.1)).mono ?_
  rintro e w8 ⟨rfl, ho8, hg8⟩
  obtain ⟨hi8, b8⟩ := HM8.out.grown ho8 hg8
  have HI8 := Lib.hid hi8
  have z8 := b8.size
  clear ho8 hg8 hi8
  have y8_0 : w.heap.size < w8.heap.size := by omega
  have k8_0_0 : w8.cell? ⟨w.heap.size, 0, none⟩ = some (.int .i64 sz0) := (b8.cell _ _ (by first | omega | (simp only [World.size_alloc]; omega)) (by omega)).trans (by first | assumption | go_simp)
  have k8_0_1 : w8.cell? ⟨w.heap.size, 1, none⟩ = some (.slice A0 n0 cp0) := (b8.cell _ _ (by first | omega | (simp only [World.size_alloc]; omega)) (by omega)).trans (by first | assumption | go_simp)
  have y8_1 : w3.heap.size < w8.heap.size := by omega
  have k8_1_0 : w8.cell? ⟨w3.heap.size, 0, none⟩ = some (.slice Aw0 (zerosD n0).length cw0) := (b8.cell _ _ (by first | omega | (simp only [World.size_alloc]; omega)) (by omega)).trans (by first | assumption | go_simp)
  have y8_2 : w4.heap.size < w8.heap.size := by omega
  have k8_2_0 : w8.cell? ⟨w4.heap.size, 0, none⟩ = some (.int .i64 sz0) := (b8.cell _ _ (by first | omega | (simp only [World.size_alloc]; omega)) (by omega)).trans (by first | assumption | go_simp)
  have k8_2_1 : w8.cell? ⟨w4.heap.size, 1, none⟩ = some (.slice (some ⟨gx0, 0, none⟩) n0 n0) := (b8.cell _ _ (by first | omega | (simp only [World.size_alloc]; omega)) (by omega)).trans (by first | assumption | go_simp)
  have y8_3 : w5.heap.size < w8.heap.size := by omega
  have k8_3_0 : w8.cell? ⟨w5.heap.size, 0, none⟩ = some (.slice Ag0 (zerosD n0).length cg0) := (b8.cell _ _ (by first | omega | (simp only [World.size_alloc]; omega)) (by omega)).trans (by first | assumption | go_simp)
  have eW8 : Ext W w8 := b8.ext (by (repeat (first | with_reducible exact Ext.refl _ | with_reducible assumption | with_reducible refine Ext.alloc ?_ _ | with_reducible refine Ext.drew ?_ | with_reducible refine Ext.drewN ?_ _ | (with_reducible refine Ext.setCell' ?_ ?_ _; (first | (with_reducible exact Nat.le_refl _) | omega | (dsimp only; omega) | (simp only [World.size_alloc]; omega))) | (with_reducible apply Ext.trans'; with_reducible assumption) | exact (Ext.refl _).drew | (refine Ext.drew ?_; assumption)))) (by omega)
  have HO8_w0 := Lib.hid ((Hw0.out.ext (by (repeat (first | with_reducible exact Ext.refl _ | with_reducible assumption | with_reducible refine Ext.alloc ?_ _ | with_reducible refine Ext.drew ?_ | with_reducible refine Ext.drewN ?_ _ | (with_reducible refine Ext.setCell' ?_ ?_ _; (first | (with_reducible exact Nat.le_refl _) | omega | (dsimp only; omega) | (simp only [World.size_alloc]; omega))) | (with_reducible apply Ext.trans'; with_reducible assumption) | exact (Ext.refl _).drew | (refine Ext.drew ?_; assumption))))).chg b8 (by omega))
  have HO8_g0 := Lib.hid ((Hg0.out.ext (by (repeat (first | with_reducible exact Ext.refl _ | with_reducible assumption | with_reducible refine Ext.alloc ?_ _ | with_reducible refine Ext.drew ?_ | with_reducible refine Ext.drewN ?_ _ | (with_reducible refine Ext.setCell' ?_ ?_ _; (first | (with_reducible exact Nat.le_refl _) | omega | (dsimp only; omega) | (simp only [World.size_alloc]; omega))) | (with_reducible apply Ext.trans'; with_reducible assumption) | exact (Ext.refl _).drew | (refine Ext.drew ?_; assumption))))).chg b8 (by omega))
  have hkn : ¬ (1 + 3 * (n0 : Int) : Int) < 0 := by omega
  go_wp2_with fail
  refine (eq_prices _ _ _ _ _ _ hdn _ (In.rd (HO8_g0.out.ext (by (repeat (first | with_reducible exact Ext.refl _ | with_reducible assumption | with_reducible refine Ext.alloc ?_ _ | with_reducible refine Ext.drew ?_ | with_reducible refine Ext.drewN ?_ _ | (with_reducible refine Ext.setCell' ?_ ?_ _; (first | (with_reducible exact Nat.le_refl _) | omega | (dsimp only; omega) | (simp only [World.size_alloc]; omega))) | (with_reducible apply Ext.trans'; with_reducible assumption) | exact (Ext.refl _).drew | (refine Ext.drew ?_; assumption)))))) (In.rd (HO8_w0.out.ext (by (repeat (first | with_reducible exact Ext.refl _ | with_reducible assumption | with_reducible refine Ext.alloc ?_ _ | with_reducible refine Ext.drew ?_ | with_reducible refine Ext.drewN ?_ _ | (with_reducible refine Ext.setCell' ?_ ?_ _; (first | (with_reducible exact Nat.le_refl _) | omega | (dsimp only; omega) | (simp only [World.size_alloc]; omega))) | (with_reducible apply Ext.trans'; with_reducible assumption) | exact (Ext.refl _).drew | (refine Ext.drew ?_; assumption))))))).mono ?_
  rintro e w9 ⟨rfl, b9⟩
  obtain ⟨c9, f9⟩ := b9.cells
  have z9 := b9.size
  try simp only [World.size_alloc] at c9 f9 z9
  have y9_0 : w.heap.size < w9.heap.size := by omega
  have k9_0_0 : w9.cell? ⟨w.heap.size, 0, none⟩ = some (.int .i64 sz0) := (c9 _ _ (by omega)).trans (by first | assumption | go_simp)
  have k9_0_1 : w9.cell? ⟨w.heap.size, 1, none⟩ = some (.slice A0 n0 cp0) := (c9 _ _ (by omega)).trans (by first | assumption | go_simp)
  have y9_1 : w3.heap.size < w9.heap.size := by omega
  have k9_1_0 : w9.cell? ⟨w3.heap.size, 0, none⟩ = some (.slice Aw0 (zerosD n0).length cw0) := (c9 _ _ (by omega)).trans (by first | assumption | go_simp)
  have y9_2 : w4.heap.size < w9.heap.size := by omega
  have k9_2_0 : w9.cell? ⟨w4.heap.size, 0, none⟩ = some (.int .i64 sz0) := (c9 _ _ (by omega)).trans (by first | assumption | go_simp)
  have k9_2_1 : w9.cell? ⟨w4.heap.size, 1, none⟩ = some (.slice (some ⟨gx0, 0, none⟩) n0 n0) := (c9 _ _ (by omega)).trans (by first | assumption | go_simp)
  have y9_3 : w5.heap.size < w9.heap.size := by omega
  have k9_3_0 : w9.cell? ⟨w5.heap.size, 0, none⟩ = some (.slice Ag0 (zerosD n0).length cg0) := (c9 _ _ (by omega)).trans (by first | assumption | go_simp)
  clear c9 f9
  have hM10 : In _ _ w9 _ _ _ _ _ := HO8_g0.out.ext (by (repeat (first | with_reducible exact Ext.refl _ | with_reducible assumption | with_reducible refine Ext.alloc ?_ _ | with_reducible refine Ext.drew ?_ | with_reducible refine Ext.drewN ?_ _ | (with_reducible refine Ext.setCell' ?_ ?_ _; (first | (with_reducible exact Nat.le_refl _) | omega | (dsimp only; omega) | (simp only [World.size_alloc]; omega))) | (with_reducible apply Ext.trans'; with_reducible assumption) | exact (Ext.refl _).drew | (refine Ext.drew ?_; assumption))))
  have HM10 := Lib.hid hM10
  clear hM10
  go_wp2_with fail
  refine (mark_prices _ _ _ _ _ 1 (by omega) (by omega) _ (HM10.out.1)).mono ?_
  rintro e w10 ⟨rfl, ho10, hg10⟩
  obtain ⟨hi10, b10⟩ := HM10.out.grown ho10 hg10
  have HI10 := Lib.hid hi10
  have z10 := b10.size
  clear ho10 hg10 hi10
  have y10_0 : w.heap.size < w10.heap.size := by omega
  have k10_0_0 : w10.cell? ⟨w.heap.size, 0, none⟩ = some (.int .i64 sz0) := (b10.cell _ _ (by first | omega | (simp only [World.size_alloc]; omega)) (by omega)).trans (by first | assumption | go_simp)
  have k10_0_1 : w10.cell? ⟨w.heap.size, 1, none⟩ = some (.slice A0 n0 cp0) := (b10.cell _ _ (by first | omega | (simp only [World.size_alloc]; omega)) (by omega)).trans (by first | assumption | go_simp)
  have y10_1 : w3.heap.size < w10.heap.size := by omega
  have k10_1_0 : w10.cell? ⟨w3.heap.size, 0, none⟩ = some (.slice Aw0 (zerosD n0).length cw0) := (b10.cell _ _ (by first | omega | (simp only [World.size_alloc]; omega)) (by omega)).trans (by first | assumption | go_simp)
  have y10_2 : w4.heap.size < w10.heap.size := by omega
  have k10_2_0 : w10.cell? ⟨w4.heap.size, 0, none⟩ = some (.int .i64 sz0) := (b10.cell _ _ (by first | omega | (simp only [World.size_alloc]; omega)) (by omega)).trans (by first | assumption | go_simp)
  have k10_2_1 : w10.cell? ⟨w4.heap.size, 1, none⟩ = some (.slice (some ⟨gx0, 0, none⟩) n0 n0) := (b10.cell _ _ (by first | omega | (simp only [World.size_alloc]; omega)) (by omega)).trans (by first | assumption | go_simp)
  have y10_3 : w5.heap.size < w10.heap.size := by omega
  have k10_3_0 : w10.cell? ⟨w5.heap.size, 0, none⟩ = some (.slice Ag0 (zerosD n0).length cg0) := (b10.cell _ _ (by first | omega | (simp only [World.size_alloc]; omega)) (by omega)).trans (by first | assumption | go_simp)
  have eW10 : Ext W w10 := b10.ext (by (repeat (first | with_reducible exact Ext.refl _ | with_reducible assumption | with_reducible refine Ext.alloc ?_ _ | with_reducible refine Ext.drew ?_ | with_reducible refine Ext.drewN ?_ _ | (with_reducible refine Ext.setCell' ?_ ?_ _; (first | (with_reducible exact Nat.le_refl _) | omega | (dsimp only; omega) | (simp only [World.size_alloc]; omega))) | (with_reducible apply Ext.trans'; with_reducible assumption) | exact (Ext.refl _).drew | (refine Ext.drew ?_; assumption)))) (by omega)
  have HO10_w0 := Lib.hid ((HO8_w0.out.ext (by (repeat (first | with_reducible exact Ext.refl _ | with_reducible assumption | with_reducible refine Ext.alloc ?_ _ | with_reducible refine Ext.drew ?_ | with_reducible refine Ext.drewN ?_ _ | (with_reducible refine Ext.setCell' ?_ ?_ _; (first | (with_reducible exact Nat.le_refl _) | omega | (dsimp only; omega) | (simp only [World.size_alloc]; omega))) | (with_reducible apply Ext.trans'; with_reducible assumption) | exact (Ext.refl _).drew | (refine Ext.drew ?_; assumption))))).chg b10 (by omega))
  have HO10_x0 := Lib.hid ((HI8.out.ext (by (repeat (first | with_reducible exact Ext.refl _ | with_reducible assumption | with_reducible refine Ext.alloc ?_ _ | with_reducible refine Ext.drew ?_ | with_reducible refine Ext.drewN ?_ _ | (with_reducible refine Ext.setCell' ?_ ?_ _; (first | (with_reducible exact Nat.le_refl _) | omega | (dsimp only; omega) | (simp only [World.size_alloc]; omega))) | (with_reducible apply Ext.trans'; with_reducible assumption) | exact (Ext.refl _).drew | (refine Ext.drew ?_; assumption))))).chg b10 (by omega))
  have hqn : ¬ (1 + ((zerosD n0).length : Int)) < 0 := by omega
  go_wp2_with fail
  refine (held_prices _ _ _ 1 (by omega) (by omega) _ (In.rd (HI10.out.ext (by (repeat (first | with_reducible exact Ext.refl _ | with_reducible assumption | with_reducible refine Ext.alloc ?_ _ | with_reducible refine Ext.drew ?_ | with_reducible refine Ext.drewN ?_ _ | (with_reducible refine Ext.setCell' ?_ ?_ _; (first | (with_reducible exact Nat.le_refl _) | omega | (dsimp only; omega) | (simp only [World.size_alloc]; omega))) | (with_reducible apply Ext.trans'; with_reducible assumption) | exact (Ext.refl _).drew | (refine Ext.drew ?_; assumption))))))).mono ?_
  rintro e w11 ⟨rfl, b11⟩
  obtain ⟨c11, f11⟩ := b11.cells
  have z11 := b11.size
  try simp only [World.size_alloc] at c11 f11 z11
  have y11_0 : w.heap.size < w11.heap.size := by omega
  have k11_0_0 : w11.cell? ⟨w.heap.size, 0, none⟩ = some (.int .i64 sz0) := (c11 _ _ (by omega)).trans (by first | assumption | go_simp)
  have k11_0_1 : w11.cell? ⟨w.heap.size, 1, none⟩ = some (.slice A0 n0 cp0) := (c11 _ _ (by omega)).trans (by first | assumption | go_simp)
  have y11_1 : w3.heap.size < w11.heap.size := by omega
  have k11_1_0 : w11.cell? ⟨w3.heap.size, 0, none⟩ = some (.slice Aw0 (zerosD n0).length cw0) := (c11 _ _ (by omega)).trans (by first | assumption | go_simp)
  have y11_2 : w4.heap.size < w11.heap.size := by omega
  have k11_2_0 : w11.cell? ⟨w4.heap.size, 0, none⟩ = some (.int .i64 sz0) := (c11 _ _ (by omega)).trans (by first | assumption | go_simp)
  have k11_2_1 : w11.cell? ⟨w4.heap.size, 1, none⟩ = some (.slice (some ⟨gx0, 0, none⟩) n0 n0) := (c11 _ _ (by omega)).trans (by first | assumption | go_simp)
  have y11_3 : w5.heap.size < w11.heap.size := by omega
  have k11_3_0 : w11.cell? ⟨w5.heap.size, 0, none⟩ = some (.slice Ag0 (zerosD n0).length cg0) := (c11 _ _ (by omega)).trans (by first | assumption | go_simp)
  clear c11 f11
  go_wp2_with fail
  refine (to_graph _ _ _ _ _ hsm0 _ (HR0.out.ext (by (repeat (first | with_reducible exact Ext.refl _ | with_reducible assumption | with_reducible refine Ext.alloc ?_ _ | with_reducible refine Ext.drew ?_ | with_reducible refine Ext.drewN ?_ _ | (with_reducible refine Ext.setCell' ?_ ?_ _; (first | (with_reducible exact Nat.le_refl _) | omega | (dsimp only; omega) | (simp only [World.size_alloc]; omega))) | (with_reducible apply Ext.trans'; with_reducible assumption) | exact (Ext.refl _).drew | (refine Ext.drew ?_; assumption)))))).mono ?_
  rintro e w12 ⟨gh0, hgh0, rfl, hoh0, b12⟩
  obtain ⟨c12, f12⟩ := b12.cells
  have z12 := b12.size
  try simp only [World.size_alloc] at c12 f12 z12
  have y12_0 : w.heap.size < w12.heap.size := by omega
  have k12_0_0 : w12.cell? ⟨w.heap.size, 0, none⟩ = some (.int .i64 sz0) := (c12 _ _ (by omega)).trans (by first | assumption | go_simp)
  have k12_0_1 : w12.cell? ⟨w.heap.size, 1, none⟩ = some (.slice A0 n0 cp0) := (c12 _ _ (by omega)).trans (by first | assumption | go_simp)
  have y12_1 : w3.heap.size < w12.heap.size := by omega
  have k12_1_0 : w12.cell? ⟨w3.heap.size, 0, none⟩ = some (.slice Aw0 (zerosD n0).length cw0) := (c12 _ _ (by omega)).trans (by first | assumption | go_simp)
  have y12_2 : w4.heap.size < w12.heap.size := by omega
  have k12_2_0 : w12.cell? ⟨w4.heap.size, 0, none⟩ = some (.int .i64 sz0) := (c12 _ _ (by omega)).trans (by first | assumption | go_simp)
  have k12_2_1 : w12.cell? ⟨w4.heap.size, 1, none⟩ = some (.slice (some ⟨gx0, 0, none⟩) n0 n0) := (c12 _ _ (by omega)).trans (by first | assumption | go_simp)
  have y12_3 : w5.heap.size < w12.heap.size := by omega
  have k12_3_0 : w12.cell? ⟨w5.heap.size, 0, none⟩ = some (.slice Ag0 (zerosD n0).length cg0) := (c12 _ _ (by omega)).trans (by first | assumption | go_simp)
  clear c12 f12
  have HOh0 := Lib.hid (Rd.of_own hoh0)
  clear hoh0 hgh0
  go_wp2_with fail
  refine (newp_impl _ _ _ _ hsm0 _).mono ?_
  rintro e w13 ⟨Ah0, ch0, rfl, hih0, b13⟩
  obtain ⟨c13, f13⟩ := b13.cells
  have z13 := b13.size
  try simp only [World.size_alloc] at c13 f13 z13
  have y13_0 : w.heap.size < w13.heap.size := by omega
  have k13_0_0 : w13.cell? ⟨w.heap.size, 0, none⟩ = some (.int .i64 sz0) := (c13 _ _ (by omega)).trans (by first | assumption | go_simp)
  have k13_0_1 : w13.cell? ⟨w.heap.size, 1, none⟩ = some (.slice A0 n0 cp0) := (c13 _ _ (by omega)).trans (by first | assumption | go_simp)
  have y13_1 : w3.heap.size < w13.heap.size := by omega
  have k13_1_0 : w13.cell? ⟨w3.heap.size, 0, none⟩ = some (.slice Aw0 (zerosD n0).length cw0) := (c13 _ _ (by omega)).trans (by first | assumption | go_simp)
  have y13_2 : w4.heap.size < w13.heap.size := by omega
  have k13_2_0 : w13.cell? ⟨w4.heap.size, 0, none⟩ = some (.int .i64 sz0) := (c13 _ _ (by omega)).trans (by first | assumption | go_simp)
  have k13_2_1 : w13.cell? ⟨w4.heap.size, 1, none⟩ = some (.slice (some ⟨gx0, 0, none⟩) n0 n0) := (c13 _ _ (by omega)).trans (by first | assumption | go_simp)
  have y13_3 : w5.heap.size < w13.heap.size := by omega
  have k13_3_0 : w13.cell? ⟨w5.heap.size, 0, none⟩ = some (.slice Ag0 (zerosD n0).length cg0) := (c13 _ _ (by omega)).trans (by first | assumption | go_simp)
  clear c13 f13
  try simp only [World.size_alloc] at hih0
  have Hh0 := Lib.hid hih0
  clear hih0
  go_wp2_with fail
  refine (eq_prices _ _ _ _ _ _ hdn _ (In.rd (Hh0.out.ext (by (repeat (first | with_reducible exact Ext.refl _ | with_reducible assumption | with_reducible refine Ext.alloc ?_ _ | with_reducible refine Ext.drew ?_ | with_reducible refine Ext.drewN ?_ _ | (with_reducible refine Ext.setCell' ?_ ?_ _; (first | (with_reducible exact Nat.le_refl _) | omega | (dsimp only; omega) | (simp only [World.size_alloc]; omega))) | (with_reducible apply Ext.trans'; with_reducible assumption) | exact (Ext.refl _).drew | (refine Ext.drew ?_; assumption)))))) (In.rd (HO10_w0.out.ext (by (repeat (first | with_reducible exact Ext.refl _ | with_reducible assumption | with_reducible refine Ext.alloc ?_ _ | with_reducible refine Ext.drew ?_ | with_reducible refine Ext.drewN ?_ _ | (with_reducible refine Ext.setCell' ?_ ?_ _; (first | (with_reducible exact Nat.le_refl _) | omega | (dsimp only; omega) | (simp only [World.size_alloc]; omega))) | (with_reducible apply Ext.trans'; with_reducible assumption) | exact (Ext.refl _).drew | (refine Ext.drew ?_; assumption))))))).mono ?_
  rintro e w14 ⟨rfl, b14⟩
  obtain ⟨c14, f14⟩ := b14.cells
  have z14 := b14.size
  try simp only [World.size_alloc] at c14 f14 z14
  have y14_0 : w.heap.size < w14.heap.size := by omega
  have k14_0_0 : w14.cell? ⟨w.heap.size, 0, none⟩ = some (.int .i64 sz0) := (c14 _ _ (by omega)).trans (by first | assumption | go_simp)
  have k14_0_1 : w14.cell? ⟨w.heap.size, 1, none⟩ = some (.slice A0 n0 cp0) := (c14 _ _ (by omega)).trans (by first | assumption | go_simp)
  have y14_1 : w3.heap.size < w14.heap.size := by omega
  have k14_1_0 : w14.cell? ⟨w3.heap.size, 0, none⟩ = some (.slice Aw0 (zerosD n0).length cw0) := (c14 _ _ (by omega)).trans (by first | assumption | go_simp)
  have y14_2 : w4.heap.size < w14.heap.size := by omega
  have k14_2_0 : w14.cell? ⟨w4.heap.size, 0, none⟩ = some (.int .i64 sz0) := (c14 _ _ (by omega)).trans (by first | assumption | go_simp)
  have k14_2_1 : w14.cell? ⟨w4.heap.size, 1, none⟩ = some (.slice (some ⟨gx0, 0, none⟩) n0 n0) := (c14 _ _ (by omega)).trans (by first | assumption | go_simp)
  have y14_3 : w5.heap.size < w14.heap.size := by omega
  have k14_3_0 : w14.cell? ⟨w5.heap.size, 0, none⟩ = some (.slice Ag0 (zerosD n0).length cg0) := (c14 _ _ (by omega)).trans (by first | assumption | go_simp)
  have y14_4 : w13.heap.size < w14.heap.size := by omega
  have k14_4_0 : w14.cell? ⟨w13.heap.size, 0, none⟩ = some (.slice Ah0 (zerosD n0).length ch0) := (c14 _ _ (by omega)).trans (by first | assumption | go_simp)
  clear c14 f14
  go_wp2_with fail
  refine (held_prices _ _ _ 1 (by omega) (by omega) _ (In.rd (HI10.out.ext (by (repeat (first | with_reducible exact Ext.refl _ | with_reducible assumption | with_reducible refine Ext.alloc ?_ _ | with_reducible refine Ext.drew ?_ | with_reducible refine Ext.drewN ?_ _ | (with_reducible refine Ext.setCell' ?_ ?_ _; (first | (with_reducible exact Nat.le_refl _) | omega | (dsimp only; omega) | (simp only [World.size_alloc]; omega))) | (with_reducible apply Ext.trans'; with_reducible assumption) | exact (Ext.refl _).drew | (refine Ext.drew ?_; assumption))))))).mono ?_
  rintro e w15 ⟨rfl, b15⟩
  obtain ⟨c15, f15⟩ := b15.cells
  have z15 := b15.size
  try simp only [World.size_alloc] at c15 f15 z15
  have y15_0 : w.heap.size < w15.heap.size := by omega
  have k15_0_0 : w15.cell? ⟨w.heap.size, 0, none⟩ = some (.int .i64 sz0) := (c15 _ _ (by omega)).trans (by first | assumption | go_simp)
  have k15_0_1 : w15.cell? ⟨w.heap.size, 1, none⟩ = some (.slice A0 n0 cp0) := (c15 _ _ (by omega)).trans (by first | assumption | go_simp)
  have y15_1 : w3.heap.size < w15.heap.size := by omega
  have k15_1_0 : w15.cell? ⟨w3.heap.size, 0, none⟩ = some (.slice Aw0 (zerosD n0).length cw0) := (c15 _ _ (by omega)).trans (by first | assumption | go_simp)
  have y15_2 : w4.heap.size < w15.heap.size := by omega
  have k15_2_0 : w15.cell? ⟨w4.heap.size, 0, none⟩ = some (.int .i64 sz0) := (c15 _ _ (by omega)).trans (by first | assumption | go_simp)
  have k15_2_1 : w15.cell? ⟨w4.heap.size, 1, none⟩ = some (.slice (some ⟨gx0, 0, none⟩) n0 n0) := (c15 _ _ (by omega)).trans (by first | assumption | go_simp)
  have y15_3 : w5.heap.size < w15.heap.size := by omega
  have k15_3_0 : w15.cell? ⟨w5.heap.size, 0, none⟩ = some (.slice Ag0 (zerosD n0).length cg0) := (c15 _ _ (by omega)).trans (by first | assumption | go_simp)
  have y15_4 : w13.heap.size < w15.heap.size := by omega
  have k15_4_0 : w15.cell? ⟨w13.heap.size, 0, none⟩ = some (.slice Ah0 (zerosD n0).length ch0) := (c15 _ _ (by omega)).trans (by first | assumption | go_simp)
  clear c15 f15
  go_wp2_with fail
  go_ret
  refine ⟨rfl, ?_⟩
  refine eW.trans ?_
  (repeat (first | with_reducible exact Ext.refl _ | with_reducible assumption | with_reducible refine Ext.alloc ?_ _ | with_reducible refine Ext.drew ?_ | with_reducible refine Ext.drewN ?_ _ | (with_reducible refine Ext.setCell' ?_ ?_ _; (first | (with_reducible exact Nat.le_refl _) | omega | (dsimp only; omega) | (simp only [World.size_alloc]; omega))) | (with_reducible apply Ext.trans'; with_reducible assumption) | exact (Ext.refl _).drew | (refine Ext.drew ?_; assumption)))

set_option maxRecDepth 100000 in
theorem walk : LawWalk 8 Try.f8 := by
  intro H enc W base args ds p hval hA
  rw [Try.params8] at hA hval
  obtain ⟨v0, vs0, d0, ds0, p0, q0, hargs, rfl, rfl, h0, r0⟩ := trodAll_cons hA
  obtain ⟨rfl, rfl, rfl⟩ := trodAll_nil r0
  obtain rfl : args = #[v0] := by cases args; simp_all
  obtain ⟨sz0, A0, n0, cp0, xs0, rfl, hn0, hr0, rg0_sz0, rgs0⟩ := open_graph (hval 0 _ v0 rfl rfl) h0
  exact law sz0 A0 n0 cp0 xs0 hn0 W hr0

set_option maxRecDepth 100000 in
theorem over : Rows.fnExactNewPricesRow.holds Try.pinned (OpenSpec.ofChange Rows.fnExactNewPricesSpec) :=
  OpenClaim.holds_of_wide 8 Try.f8 rfl rfl rfl rfl rfl rfl rfl ⟨rfl, rfl, rfl, rfl, rfl⟩ rfl rfl rfl rfl rfl (by kernel_rfl) Try.func8 (by kernel_rfl)
    (of_decide_eq_true (by kernel_rfl)) (by unfold Func.isWrapper; first | (rw [if_pos (by decide +kernel)]; kernel_rfl) | (rw [if_neg (by decide +kernel)]; exact ⟨rfl, rfl⟩))
    (fun os started H enc _ => lifted_of (s := Rows.fnExactNewPricesSpec) (conds := Rows.fnExactNewPricesRow.domain) os started H enc (by kernel_rfl) Try.func8
      (ChangeSpec.witness6 (enc := enc) (C := Try.checked) false ⟨#[], #[.agg #[.int .i64 0, .slice none 0 0]], []⟩ 8 (by kernel_rfl) (by kernel_rfl) (by kernel_rfl) (by kernel_rfl))
      (by kernel_rfl) rfl (by kernel_rfl) (fun ds h => by match ds, h with | [d], _ => rfl) walk)

theorem proved : Rows.FnExactNewPricesSaid := over
#print axioms proved
end Go.Proofs.Ytefkjkbipkcncaa.fnExactNewPrices
