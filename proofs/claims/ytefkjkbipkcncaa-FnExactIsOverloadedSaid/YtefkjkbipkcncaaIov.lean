/-
  IsOverloaded of the program returns what the reference's returns, for every argument.
-/
import Derived.Test.YtefkjkbipkcncaaOver
import Derived.Deep.RegionHeld3
namespace Go.Proofs.Ytefkjkbipkcncaa.fnExactIsOverloaded
open Go.ChangeShapes Go.WideShapes Go.ChangeAt Go.RowKit
set_option linter.unusedVariables false
set_option maxHeartbeats 3200000 in
theorem law (sz0 : Int) (A0 : Option Addr) (n0 c0 : Nat) (xs0 : List Tri) (hn0 : n0 ≤ 9223372036854775807) (A1 : Option Addr) (n1 c1 : Nat) (xs1 : List Int) (hn1 : n1 ≤ 9223372036854775807) (w : World) (hr0 : Rd w 3 A0 n0 (tris xs0)) (hr1 : Rd w 1 A1 n1 (ints xs1)) :
    Calls Try.prog 6 #[.agg #[.int .i64 sz0, .slice A0 n0 c0], .slice A1 n1 c1] w fun e w' => e = .returned (.bool true) ∧ Ext w w' := by
  obtain ⟨W, hW⟩ : ∃ W, (w.alloc (.cells #[.int .i64 sz0, .slice A0 n0 c0] 37)) = W := ⟨_, rfl⟩
  have HW := Lib.hid hW
  have eW : Ext w W := by rw [← hW]; (repeat (first | with_reducible exact Ext.refl _ | with_reducible assumption | with_reducible refine Ext.alloc ?_ _ | with_reducible refine Ext.drew ?_ | with_reducible refine Ext.drewN ?_ _ | (with_reducible refine Ext.setCell' ?_ ?_ _; (first | (with_reducible exact Nat.le_refl _) | omega | (dsimp only; omega) | (simp only [World.size_alloc]; omega))) | (with_reducible apply Ext.trans'; with_reducible assumption) | exact (Ext.refl _).drew | (refine Ext.drew ?_; assumption)))
  clear hW
  have zW0 : w.heap.size < W.heap.size := by rw [← HW.out]; simp
  have kW_0_0 : W.cell? ⟨w.heap.size, 0, none⟩ = some (.int .i64 sz0) := by rw [← HW.out]; go_simp
  have kW_0_1 : W.cell? ⟨w.heap.size, 1, none⟩ = some (.slice A0 n0 c0) := by rw [← HW.out]; go_simp
  have HR0 := Lib.hid (hr0.ext eW)
  have HR1 := Lib.hid (hr1.ext eW)
  clear hr0 hr1
  by_cases hsm1 : n1 ≤ 1048576
  case neg =>
    have hg : (n1 : Int) > 1048576 := by omega
    go_enter Try.func6, Try.ntmps6
    go_wp2_with fail
    go_ret
    refine ⟨rfl, ?_⟩
    (repeat (first | with_reducible exact Ext.refl _ | with_reducible assumption | with_reducible refine Ext.alloc ?_ _ | with_reducible refine Ext.drew ?_ | with_reducible refine Ext.drewN ?_ _ | (with_reducible refine Ext.setCell' ?_ ?_ _; (first | (with_reducible exact Nat.le_refl _) | omega | (dsimp only; omega) | (simp only [World.size_alloc]; omega))) | (with_reducible apply Ext.trans'; with_reducible assumption) | exact (Ext.refl _).drew | (refine Ext.drew ?_; assumption)))
  by_cases hg0 : (1048576 : Int) < n0
  case pos =>
    have hs0 := fun w' => sz_graph sz0 A0 n0 c0 hn0 (1048576 : Int) (by omega) (by omega) w'
    simp only [if_pos hg0] at hs0
    have HS0 := Lib.hid hs0
    clear hs0
    go_enter Try.func6, Try.ntmps6
    go_wp2_with fail
    rw [HW.out]
    go_wp2_with fail
    refine (HS0.out _).mono ?_
    rintro e w1 ⟨rfl, b1⟩
    obtain ⟨c1, f1⟩ := b1.cells
    have z1 := b1.size
    try simp only [World.size_alloc] at c1 f1 z1
    have y1_0 : w.heap.size < w1.heap.size := by omega
    have k1_0_0 : w1.cell? ⟨w.heap.size, 0, none⟩ = some (.int .i64 sz0) := (c1 _ _ (by omega)).trans (by first | assumption | go_simp)
    have k1_0_1 : w1.cell? ⟨w.heap.size, 1, none⟩ = some (.slice A0 n0 c0) := (c1 _ _ (by omega)).trans (by first | assumption | go_simp)
    clear c1 f1
    go_wp2_with fail
    go_ret
    refine ⟨rfl, ?_⟩
    (repeat (first | with_reducible exact Ext.refl _ | with_reducible assumption | with_reducible refine Ext.alloc ?_ _ | with_reducible refine Ext.drew ?_ | with_reducible refine Ext.drewN ?_ _ | (with_reducible refine Ext.setCell' ?_ ?_ _; (first | (with_reducible exact Nat.le_refl _) | omega | (dsimp only; omega) | (simp only [World.size_alloc]; omega))) | (with_reducible apply Ext.trans'; with_reducible assumption) | exact (Ext.refl _).drew | (refine Ext.drew ?_; assumption)))
  have hs0 := fun w' => sz_graph sz0 A0 n0 c0 hn0 (1048576 : Int) (by omega) (by omega) w'
  simp only [if_neg hg0] at hs0
  have HS0 := Lib.hid hs0
  clear hs0
  have hsm0 : n0 ≤ 1048576 := by omega
  go_enter Try.func6, Try.ntmps6
  go_wp2_with fail
  rw [HW.out]
  go_wp2_with fail
  refine (HS0.out _).mono ?_
  rintro e w1 ⟨rfl, b1⟩
  obtain ⟨c1, f1⟩ := b1.cells
  have z1 := b1.size
  try simp only [World.size_alloc] at c1 f1 z1
  have y1_0 : w.heap.size < w1.heap.size := by omega
  have k1_0_0 : w1.cell? ⟨w.heap.size, 0, none⟩ = some (.int .i64 sz0) := (c1 _ _ (by omega)).trans (by first | assumption | go_simp)
  have k1_0_1 : w1.cell? ⟨w.heap.size, 1, none⟩ = some (.slice A0 n0 c0) := (c1 _ _ (by omega)).trans (by first | assumption | go_simp)
  clear c1 f1
  go_wp2_with fail
  refine (to_graph _ _ _ _ _ hsm0 _ (HR0.out.ext (by (repeat (first | with_reducible exact Ext.refl _ | with_reducible assumption | with_reducible refine Ext.alloc ?_ _ | with_reducible refine Ext.drew ?_ | with_reducible refine Ext.drewN ?_ _ | (with_reducible refine Ext.setCell' ?_ ?_ _; (first | (with_reducible exact Nat.le_refl _) | omega | (dsimp only; omega) | (simp only [World.size_alloc]; omega))) | (with_reducible apply Ext.trans'; with_reducible assumption) | exact (Ext.refl _).drew | (refine Ext.drew ?_; assumption)))))).mono ?_
  rintro e w2 ⟨ga0, hga0, rfl, hoa0, b2⟩
  obtain ⟨c2, f2⟩ := b2.cells
  have z2 := b2.size
  try simp only [World.size_alloc] at c2 f2 z2
  have y2_0 : w.heap.size < w2.heap.size := by omega
  have k2_0_0 : w2.cell? ⟨w.heap.size, 0, none⟩ = some (.int .i64 sz0) := (c2 _ _ (by omega)).trans (by first | assumption | go_simp)
  have k2_0_1 : w2.cell? ⟨w.heap.size, 1, none⟩ = some (.slice A0 n0 c0) := (c2 _ _ (by omega)).trans (by first | assumption | go_simp)
  clear c2 f2
  have HOA0 := Lib.hid (Rd.of_own hoa0)
  clear hoa0 hga0
  go_wp2_with fail
  refine (to_ints _ _ _ _ (by omega) _ (HR1.out.ext (by (repeat (first | with_reducible exact Ext.refl _ | with_reducible assumption | with_reducible refine Ext.alloc ?_ _ | with_reducible refine Ext.drew ?_ | with_reducible refine Ext.drewN ?_ _ | (with_reducible refine Ext.setCell' ?_ ?_ _; (first | (with_reducible exact Nat.le_refl _) | omega | (dsimp only; omega) | (simp only [World.size_alloc]; omega))) | (with_reducible apply Ext.trans'; with_reducible assumption) | exact (Ext.refl _).drew | (refine Ext.drew ?_; assumption)))))).mono ?_
  rintro e w3 ⟨ga1, hga1, rfl, hoa1, b3⟩
  obtain ⟨c3, f3⟩ := b3.cells
  have z3 := b3.size
  try simp only [World.size_alloc] at c3 f3 z3
  have y3_0 : w.heap.size < w3.heap.size := by omega
  have k3_0_0 : w3.cell? ⟨w.heap.size, 0, none⟩ = some (.int .i64 sz0) := (c3 _ _ (by omega)).trans (by first | assumption | go_simp)
  have k3_0_1 : w3.cell? ⟨w.heap.size, 1, none⟩ = some (.slice A0 n0 c0) := (c3 _ _ (by omega)).trans (by first | assumption | go_simp)
  clear c3 f3
  have HOA1 := Lib.hid (Rd.of_own hoa1)
  clear hoa1 hga1
  go_wp2_with fail
  refine (over_spec _ _ _ _ _ _ _ _ _ (by omega) hsm0 _ (HOA0.out.ext (by (repeat (first | with_reducible exact Ext.refl _ | with_reducible assumption | with_reducible refine Ext.alloc ?_ _ | with_reducible refine Ext.drew ?_ | with_reducible refine Ext.drewN ?_ _ | (with_reducible refine Ext.setCell' ?_ ?_ _; (first | (with_reducible exact Nat.le_refl _) | omega | (dsimp only; omega) | (simp only [World.size_alloc]; omega))) | (with_reducible apply Ext.trans'; with_reducible assumption) | exact (Ext.refl _).drew | (refine Ext.drew ?_; assumption))))) (HOA1.out.ext (by (repeat (first | with_reducible exact Ext.refl _ | with_reducible assumption | with_reducible refine Ext.alloc ?_ _ | with_reducible refine Ext.drew ?_ | with_reducible refine Ext.drewN ?_ _ | (with_reducible refine Ext.setCell' ?_ ?_ _; (first | (with_reducible exact Nat.le_refl _) | omega | (dsimp only; omega) | (simp only [World.size_alloc]; omega))) | (with_reducible apply Ext.trans'; with_reducible assumption) | exact (Ext.refl _).drew | (refine Ext.drew ?_; assumption)))))).mono ?_
  rintro e w4 ⟨rfl, b4⟩
  obtain ⟨c4, f4⟩ := b4.cells
  have z4 := b4.size
  try simp only [World.size_alloc] at c4 f4 z4
  have y4_0 : w.heap.size < w4.heap.size := by omega
  have k4_0_0 : w4.cell? ⟨w.heap.size, 0, none⟩ = some (.int .i64 sz0) := (c4 _ _ (by omega)).trans (by first | assumption | go_simp)
  have k4_0_1 : w4.cell? ⟨w.heap.size, 1, none⟩ = some (.slice A0 n0 c0) := (c4 _ _ (by omega)).trans (by first | assumption | go_simp)
  clear c4 f4
  go_wp2_with fail
  refine (to_graph _ _ _ _ _ hsm0 _ (HR0.out.ext (by (repeat (first | with_reducible exact Ext.refl _ | with_reducible assumption | with_reducible refine Ext.alloc ?_ _ | with_reducible refine Ext.drew ?_ | with_reducible refine Ext.drewN ?_ _ | (with_reducible refine Ext.setCell' ?_ ?_ _; (first | (with_reducible exact Nat.le_refl _) | omega | (dsimp only; omega) | (simp only [World.size_alloc]; omega))) | (with_reducible apply Ext.trans'; with_reducible assumption) | exact (Ext.refl _).drew | (refine Ext.drew ?_; assumption)))))).mono ?_
  rintro e w5 ⟨gx0, hgx0, rfl, hox0, b5⟩
  obtain ⟨c5, f5⟩ := b5.cells
  have z5 := b5.size
  try simp only [World.size_alloc] at c5 f5 z5
  have y5_0 : w.heap.size < w5.heap.size := by omega
  have k5_0_0 : w5.cell? ⟨w.heap.size, 0, none⟩ = some (.int .i64 sz0) := (c5 _ _ (by omega)).trans (by first | assumption | go_simp)
  have k5_0_1 : w5.cell? ⟨w.heap.size, 1, none⟩ = some (.slice A0 n0 c0) := (c5 _ _ (by omega)).trans (by first | assumption | go_simp)
  clear c5 f5
  have HOX0 := Lib.hid ((Rd.of_own hox0).alloc (.cells #[.int .i64 sz0, .slice (some ⟨gx0, 0, none⟩) n0 n0] 43))
  have ex0 := (Ext.refl w5).alloc (.cells #[.int .i64 sz0, .slice (some ⟨gx0, 0, none⟩) n0 n0] 43)
  clear hox0 hgx0
  go_wp2_with fail
  refine (to_ints _ _ _ _ (by omega) _ (HR1.out.ext (by (repeat (first | with_reducible exact Ext.refl _ | with_reducible assumption | with_reducible refine Ext.alloc ?_ _ | with_reducible refine Ext.drew ?_ | with_reducible refine Ext.drewN ?_ _ | (with_reducible refine Ext.setCell' ?_ ?_ _; (first | (with_reducible exact Nat.le_refl _) | omega | (dsimp only; omega) | (simp only [World.size_alloc]; omega))) | (with_reducible apply Ext.trans'; with_reducible assumption) | exact (Ext.refl _).drew | (refine Ext.drew ?_; assumption)))))).mono ?_
  rintro e w6 ⟨gx1, hgx1, rfl, hox1, b6⟩
  obtain ⟨c6, f6⟩ := b6.cells
  have z6 := b6.size
  try simp only [World.size_alloc] at c6 f6 z6
  have y6_0 : w.heap.size < w6.heap.size := by omega
  have k6_0_0 : w6.cell? ⟨w.heap.size, 0, none⟩ = some (.int .i64 sz0) := (c6 _ _ (by omega)).trans (by first | assumption | go_simp)
  have k6_0_1 : w6.cell? ⟨w.heap.size, 1, none⟩ = some (.slice A0 n0 c0) := (c6 _ _ (by omega)).trans (by first | assumption | go_simp)
  have y6_1 : w5.heap.size < w6.heap.size := by omega
  have k6_1_0 : w6.cell? ⟨w5.heap.size, 0, none⟩ = some (.int .i64 sz0) := (c6 _ _ (by omega)).trans (by first | assumption | go_simp)
  have k6_1_1 : w6.cell? ⟨w5.heap.size, 1, none⟩ = some (.slice (some ⟨gx0, 0, none⟩) n0 n0) := (c6 _ _ (by omega)).trans (by first | assumption | go_simp)
  clear c6 f6
  have HOX1 := Lib.hid (Rd.of_own hox1)
  clear hox1 hgx1
  go_wp2_with fail
  refine (over_impl _ _ _ _ _ _ _ _ _ (by omega) hsm0 _ (HOX0.out.ext (by (repeat (first | with_reducible exact Ext.refl _ | with_reducible assumption | with_reducible refine Ext.alloc ?_ _ | with_reducible refine Ext.drew ?_ | with_reducible refine Ext.drewN ?_ _ | (with_reducible refine Ext.setCell' ?_ ?_ _; (first | (with_reducible exact Nat.le_refl _) | omega | (dsimp only; omega) | (simp only [World.size_alloc]; omega))) | (with_reducible apply Ext.trans'; with_reducible assumption) | exact (Ext.refl _).drew | (refine Ext.drew ?_; assumption))))) (HOX1.out.ext (by (repeat (first | with_reducible exact Ext.refl _ | with_reducible assumption | with_reducible refine Ext.alloc ?_ _ | with_reducible refine Ext.drew ?_ | with_reducible refine Ext.drewN ?_ _ | (with_reducible refine Ext.setCell' ?_ ?_ _; (first | (with_reducible exact Nat.le_refl _) | omega | (dsimp only; omega) | (simp only [World.size_alloc]; omega))) | (with_reducible apply Ext.trans'; with_reducible assumption) | exact (Ext.refl _).drew | (refine Ext.drew ?_; assumption)))))).mono ?_
  rintro e w7 ⟨rfl, b7⟩
  obtain ⟨c7, f7⟩ := b7.cells
  have z7 := b7.size
  try simp only [World.size_alloc] at c7 f7 z7
  have y7_0 : w.heap.size < w7.heap.size := by omega
  have k7_0_0 : w7.cell? ⟨w.heap.size, 0, none⟩ = some (.int .i64 sz0) := (c7 _ _ (by omega)).trans (by first | assumption | go_simp)
  have k7_0_1 : w7.cell? ⟨w.heap.size, 1, none⟩ = some (.slice A0 n0 c0) := (c7 _ _ (by omega)).trans (by first | assumption | go_simp)
  have y7_1 : w5.heap.size < w7.heap.size := by omega
  have k7_1_0 : w7.cell? ⟨w5.heap.size, 0, none⟩ = some (.int .i64 sz0) := (c7 _ _ (by omega)).trans (by first | assumption | go_simp)
  have k7_1_1 : w7.cell? ⟨w5.heap.size, 1, none⟩ = some (.slice (some ⟨gx0, 0, none⟩) n0 n0) := (c7 _ _ (by omega)).trans (by first | assumption | go_simp)
  clear c7 f7
  go_wp2_with fail
  go_region_held3 (fun w' => (w'.cell? ⟨w5.heap.size, 0, none⟩ = some (.int .i64 sz0) ∧ w'.cell? ⟨w5.heap.size, 1, none⟩ = some (.slice (some ⟨gx0, 0, none⟩) n0 n0) ∧ w'.cell? ⟨w.heap.size, 0, none⟩ = some (.int .i64 sz0) ∧ w'.cell? ⟨w.heap.size, 1, none⟩ = some (.slice A0 n0 c0)) ∧ Ext w7 w') ((refine keepS ?_ (fun hX => ?_); (focus ((repeat (first | with_reducible exact Ext.refl _ | with_reducible assumption | with_reducible refine Ext.alloc ?_ _ | with_reducible refine Ext.drew ?_ | with_reducible refine Ext.drewN ?_ _ | (with_reducible refine Ext.setCell' ?_ ?_ _; (first | (with_reducible exact Nat.le_refl _) | omega | (dsimp only; omega) | (simp only [World.size_alloc]; omega))) | (with_reducible apply Ext.trans'; with_reducible assumption) | exact (Ext.refl _).drew | (refine Ext.drew ?_; assumption))); done)); (refine ⟨?_, ?_, ?_, ?_⟩ <;> (refine (hX.cell _ _ ?_).trans ?_; omega; assumption)))) (first | (go_at_call 26; refine (to_graph _ _ _ _ _ hsm0 _ (HR0.out.ext (by (repeat (first | with_reducible exact Ext.refl _ | with_reducible assumption | with_reducible refine Ext.alloc ?_ _ | with_reducible refine Ext.drew ?_ | with_reducible refine Ext.drewN ?_ _ | (with_reducible refine Ext.setCell' ?_ ?_ _; (first | (with_reducible exact Nat.le_refl _) | omega | (dsimp only; omega) | (simp only [World.size_alloc]; omega))) | (with_reducible apply Ext.trans'; with_reducible assumption) | exact (Ext.refl _).drew | (refine Ext.drew ?_; assumption)))))).mono ?_; rintro e vy0 ⟨gy0, _, rfl, hoy0, bvy0⟩; have xvy0 : Ext w7 vy0 := (by (repeat (first | with_reducible exact Ext.refl _ | with_reducible assumption | with_reducible refine Ext.alloc ?_ _ | with_reducible refine Ext.drew ?_ | with_reducible refine Ext.drewN ?_ _ | (with_reducible refine Ext.setCell' ?_ ?_ _; (first | (with_reducible exact Nat.le_refl _) | omega | (dsimp only; omega) | (simp only [World.size_alloc]; omega))) | (with_reducible apply Ext.trans'; with_reducible assumption) | exact (Ext.refl _).drew | (refine Ext.drew ?_; assumption)))); have qvy0_0 := (xvy0.cell (w5.heap.size) (0) (by omega)).trans k7_1_0; have qvy0_1 := (xvy0.cell (w5.heap.size) (1) (by omega)).trans k7_1_1; have qvy0_2 := (xvy0.cell (w.heap.size) (0) (by omega)).trans k7_0_0; have qvy0_3 := (xvy0.cell (w.heap.size) (1) (by omega)).trans k7_0_1) | (go_at_call 29; refine (eq_graph _ _ _ _ _ _ _ hsm0 _ (HOX0.out.ext (by (repeat (first | with_reducible exact Ext.refl _ | with_reducible assumption | with_reducible refine Ext.alloc ?_ _ | with_reducible refine Ext.drew ?_ | with_reducible refine Ext.drewN ?_ _ | (with_reducible refine Ext.setCell' ?_ ?_ _; (first | (with_reducible exact Nat.le_refl _) | omega | (dsimp only; omega) | (simp only [World.size_alloc]; omega))) | (with_reducible apply Ext.trans'; with_reducible assumption) | exact (Ext.refl _).drew | (refine Ext.drew ?_; assumption))))) (Rd.of_own hoy0)).mono ?_; rintro e vz0 ⟨rfl, bvz0⟩; have xvz0 : Ext w7 vz0 := (by (repeat (first | with_reducible exact Ext.refl _ | with_reducible assumption | with_reducible refine Ext.alloc ?_ _ | with_reducible refine Ext.drew ?_ | with_reducible refine Ext.drewN ?_ _ | (with_reducible refine Ext.setCell' ?_ ?_ _; (first | (with_reducible exact Nat.le_refl _) | omega | (dsimp only; omega) | (simp only [World.size_alloc]; omega))) | (with_reducible apply Ext.trans'; with_reducible assumption) | exact (Ext.refl _).drew | (refine Ext.drew ?_; assumption)))); have qvz0_0 := (xvz0.cell (w5.heap.size) (0) (by omega)).trans k7_1_0; have qvz0_1 := (xvz0.cell (w5.heap.size) (1) (by omega)).trans k7_1_1; have qvz0_2 := (xvz0.cell (w.heap.size) (0) (by omega)).trans k7_0_0; have qvz0_3 := (xvz0.cell (w.heap.size) (1) (by omega)).trans k7_0_1))
  have b8 := xvz0
  have z8 := b8.size
  have y8_0 : w.heap.size < vz0.heap.size := by omega
  have k8_0_0 : vz0.cell? ⟨w.heap.size, 0, none⟩ = some (.int .i64 sz0) := (b8.cell _ _ (by omega)).trans k7_0_0
  have k8_0_1 : vz0.cell? ⟨w.heap.size, 1, none⟩ = some (.slice A0 n0 c0) := (b8.cell _ _ (by omega)).trans k7_0_1
  have y8_1 : w5.heap.size < vz0.heap.size := by omega
  have k8_1_0 : vz0.cell? ⟨w5.heap.size, 0, none⟩ = some (.int .i64 sz0) := (b8.cell _ _ (by omega)).trans k7_1_0
  have k8_1_1 : vz0.cell? ⟨w5.heap.size, 1, none⟩ = some (.slice (some ⟨gx0, 0, none⟩) n0 n0) := (b8.cell _ _ (by omega)).trans k7_1_1
  go_wp2_with fail
  refine (to_ints _ _ _ _ (by omega) _ (HR1.out.ext (by (repeat (first | with_reducible exact Ext.refl _ | with_reducible assumption | with_reducible refine Ext.alloc ?_ _ | with_reducible refine Ext.drew ?_ | with_reducible refine Ext.drewN ?_ _ | (with_reducible refine Ext.setCell' ?_ ?_ _; (first | (with_reducible exact Nat.le_refl _) | omega | (dsimp only; omega) | (simp only [World.size_alloc]; omega))) | (with_reducible apply Ext.trans'; with_reducible assumption) | exact (Ext.refl _).drew | (refine Ext.drew ?_; assumption)))))).mono ?_
  rintro e w9 ⟨gy1, _, rfl, hoy1, b9⟩
  obtain ⟨c9, f9⟩ := b9.cells
  have z9 := b9.size
  try simp only [World.size_alloc] at c9 f9 z9
  have y9_0 : w.heap.size < w9.heap.size := by omega
  have k9_0_0 : w9.cell? ⟨w.heap.size, 0, none⟩ = some (.int .i64 sz0) := (c9 _ _ (by omega)).trans (by first | assumption | go_simp)
  have k9_0_1 : w9.cell? ⟨w.heap.size, 1, none⟩ = some (.slice A0 n0 c0) := (c9 _ _ (by omega)).trans (by first | assumption | go_simp)
  have y9_1 : w5.heap.size < w9.heap.size := by omega
  have k9_1_0 : w9.cell? ⟨w5.heap.size, 0, none⟩ = some (.int .i64 sz0) := (c9 _ _ (by omega)).trans (by first | assumption | go_simp)
  have k9_1_1 : w9.cell? ⟨w5.heap.size, 1, none⟩ = some (.slice (some ⟨gx0, 0, none⟩) n0 n0) := (c9 _ _ (by omega)).trans (by first | assumption | go_simp)
  clear c9 f9
  have HOY1 := Lib.hid (Rd.of_own hoy1)
  clear hoy1
  go_wp2_with fail
  refine (eq_ints_e _ _ _ _ _ _ (by omega) _ (HOX1.out.ext (by (repeat (first | with_reducible exact Ext.refl _ | with_reducible assumption | with_reducible refine Ext.alloc ?_ _ | with_reducible refine Ext.drew ?_ | with_reducible refine Ext.drewN ?_ _ | (with_reducible refine Ext.setCell' ?_ ?_ _; (first | (with_reducible exact Nat.le_refl _) | omega | (dsimp only; omega) | (simp only [World.size_alloc]; omega))) | (with_reducible apply Ext.trans'; with_reducible assumption) | exact (Ext.refl _).drew | (refine Ext.drew ?_; assumption))))) (HOY1.out.ext (by (repeat (first | with_reducible exact Ext.refl _ | with_reducible assumption | with_reducible refine Ext.alloc ?_ _ | with_reducible refine Ext.drew ?_ | with_reducible refine Ext.drewN ?_ _ | (with_reducible refine Ext.setCell' ?_ ?_ _; (first | (with_reducible exact Nat.le_refl _) | omega | (dsimp only; omega) | (simp only [World.size_alloc]; omega))) | (with_reducible apply Ext.trans'; with_reducible assumption) | exact (Ext.refl _).drew | (refine Ext.drew ?_; assumption)))))).mono ?_
  rintro e w10 ⟨rfl, b10⟩
  obtain ⟨c10, f10⟩ := b10.cells
  have z10 := b10.size
  try simp only [World.size_alloc] at c10 f10 z10
  have y10_0 : w.heap.size < w10.heap.size := by omega
  have k10_0_0 : w10.cell? ⟨w.heap.size, 0, none⟩ = some (.int .i64 sz0) := (c10 _ _ (by omega)).trans (by first | assumption | go_simp)
  have k10_0_1 : w10.cell? ⟨w.heap.size, 1, none⟩ = some (.slice A0 n0 c0) := (c10 _ _ (by omega)).trans (by first | assumption | go_simp)
  have y10_1 : w5.heap.size < w10.heap.size := by omega
  have k10_1_0 : w10.cell? ⟨w5.heap.size, 0, none⟩ = some (.int .i64 sz0) := (c10 _ _ (by omega)).trans (by first | assumption | go_simp)
  have k10_1_1 : w10.cell? ⟨w5.heap.size, 1, none⟩ = some (.slice (some ⟨gx0, 0, none⟩) n0 n0) := (c10 _ _ (by omega)).trans (by first | assumption | go_simp)
  clear c10 f10
  go_wp2_with fail
  go_ret
  refine ⟨rfl, ?_⟩
  (repeat (first | with_reducible exact Ext.refl _ | with_reducible assumption | with_reducible refine Ext.alloc ?_ _ | with_reducible refine Ext.drew ?_ | with_reducible refine Ext.drewN ?_ _ | (with_reducible refine Ext.setCell' ?_ ?_ _; (first | (with_reducible exact Nat.le_refl _) | omega | (dsimp only; omega) | (simp only [World.size_alloc]; omega))) | (with_reducible apply Ext.trans'; with_reducible assumption) | exact (Ext.refl _).drew | (refine Ext.drew ?_; assumption)))

set_option maxRecDepth 100000 in
theorem walk : LawWalk 6 Try.f6 := by
  intro H enc W base args ds p hval hA
  rw [Try.params6] at hA hval
  obtain ⟨v0, vs0, d0, ds0, p0, q0, hargs, rfl, rfl, h0, r0⟩ := trodAll_cons hA
  obtain ⟨v1, vs1, d1, ds1, p1, q1, rfl, rfl, rfl, h1, r1⟩ := trodAll_cons r0
  obtain ⟨rfl, rfl, rfl⟩ := trodAll_nil r1
  obtain rfl : args = #[v0, v1] := by cases args; simp_all
  obtain ⟨sz0, A0, n0, c0, xs0, rfl, hn0, hr0, rg0_sz0, rgs0⟩ := open_graph (hval 0 _ v0 rfl rfl) h0
  obtain ⟨A1, n1, c1, xs1, rfl, _, hm1, hr1, rgs1⟩ := outer_ints Try.underlying38 Try.underlying3 (show Try.prog.cellsOf 3 = 1 by kernel_rfl) (hval 1 _ v1 rfl rfl) h1
  have hn1 : n1 ≤ 9223372036854775807 := by unfold maxLen at hm1; omega
  exact law sz0 A0 n0 c0 xs0 hn0 A1 n1 c1 xs1 hn1 W hr0 hr1

set_option maxRecDepth 100000 in
theorem over : Rows.fnExactIsOverloadedRow.holds Try.pinned (OpenSpec.ofChange Rows.fnExactIsOverloadedSpec) :=
  OpenClaim.holds_of_wide 6 Try.f6 rfl rfl rfl rfl rfl rfl rfl ⟨rfl, rfl, rfl, rfl, rfl⟩ rfl rfl rfl rfl rfl (by kernel_rfl) Try.func6 (by kernel_rfl)
    (of_decide_eq_true (by kernel_rfl)) (by unfold Func.isWrapper; first | (rw [if_pos (by decide +kernel)]; kernel_rfl) | (rw [if_neg (by decide +kernel)]; exact ⟨rfl, rfl⟩))
    (fun os started H enc _ => lifted_of (s := Rows.fnExactIsOverloadedSpec) (conds := Rows.fnExactIsOverloadedRow.domain) os started H enc (by kernel_rfl) Try.func6
      (ChangeSpec.witness6 (enc := enc) (C := Try.checked) false ⟨#[], #[.agg #[.int .i64 0, .slice none 0 0], .slice none 0 0], []⟩ 8 (by kernel_rfl) (by kernel_rfl) (by kernel_rfl) (by kernel_rfl))
      (by kernel_rfl) rfl (by kernel_rfl) (fun ds h => by match ds, h with | [d1, d2], _ => rfl) walk)

theorem proved : Rows.FnExactIsOverloadedSaid := over
#print axioms proved
end Go.Proofs.Ytefkjkbipkcncaa.fnExactIsOverloaded
