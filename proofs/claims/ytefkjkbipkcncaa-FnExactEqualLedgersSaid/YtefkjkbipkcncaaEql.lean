/-
  EqualLedgers of the program returns what the reference's returns, for every argument.
-/
import Derived.Test.YtefkjkbipkcncaaEqlL
import Derived.Deep.RegionHeld3
namespace Go.Proofs.Ytefkjkbipkcncaa.fnExactEqualLedgers
open Go.ChangeShapes Go.WideShapes Go.ChangeAt Go.RowKit
set_option linter.unusedVariables false
set_option maxHeartbeats 3200000 in
theorem law (A0 : Option Addr) (n0 cp0 : Nat) (xs0 : List Tri) (hn0 : n0 ≤ 9223372036854775807) (A1 : Option Addr) (n1 cp1 : Nat) (xs1 : List Tri) (hn1 : n1 ≤ 9223372036854775807) (w : World) (hr0 : Rd w 3 A0 n0 (tris xs0)) (hr1 : Rd w 3 A1 n1 (tris xs1)) :
    Calls Try.prog 5 #[.agg #[.slice A0 n0 cp0], .agg #[.slice A1 n1 cp1]] w fun e w' => e = .returned (.bool true) ∧ Ext w w' := by
  obtain ⟨W, hW⟩ : ∃ W, ((w.alloc (.cells #[.slice A0 n0 cp0] 24)).alloc (.cells #[.slice A1 n1 cp1] 24)) = W := ⟨_, rfl⟩
  have HW := Lib.hid hW
  have eW : Ext w W := by rw [← hW]; (repeat (first | with_reducible exact Ext.refl _ | with_reducible assumption | with_reducible refine Ext.alloc ?_ _ | with_reducible refine Ext.drew ?_ | with_reducible refine Ext.drewN ?_ _ | (with_reducible refine Ext.setCell' ?_ ?_ _; (first | (with_reducible exact Nat.le_refl _) | omega | (dsimp only; omega) | (simp only [World.size_alloc]; omega))) | (with_reducible apply Ext.trans'; with_reducible assumption) | exact (Ext.refl _).drew | (refine Ext.drew ?_; assumption)))
  clear hW
  have zW0 : w.heap.size < W.heap.size := by rw [← HW.out]; simp; omega
  have kW_0_0 : W.cell? ⟨w.heap.size, 0, none⟩ = some (.slice A0 n0 cp0) := by rw [← HW.out]; go_simp
  have zW1 : w.heap.size + 1 < W.heap.size := by rw [← HW.out]; simp
  have kW_1_0 : W.cell? ⟨w.heap.size + 1, 0, none⟩ = some (.slice A1 n1 cp1) := by rw [← HW.out]; go_simp
  have HR0 := Lib.hid (hr0.ext eW)
  have HR1 := Lib.hid (hr1.ext eW)
  clear hr0 hr1
  by_cases hg0 : (1048576 : Int) < n0
  case pos =>
    have hs0 := fun w' => sz_ledger A0 n0 cp0 hn0 (1048576 : Int) (by omega) (by omega) w'
    simp only [if_pos hg0] at hs0
    have HS0 := Lib.hid hs0
    clear hs0
    go_enter Try.func5, Try.ntmps5
    go_wp2_with fail
    rw [HW.out]
    go_wp2_with fail
    refine (HS0.out _).mono ?_
    rintro e w1 ⟨rfl, b1⟩
    obtain ⟨c1, f1⟩ := b1.cells
    have z1 := b1.size
    try simp only [World.size_alloc] at c1 f1 z1
    have y1_0 : w.heap.size < w1.heap.size := by omega
    have k1_0_0 : w1.cell? ⟨w.heap.size, 0, none⟩ = some (.slice A0 n0 cp0) := (c1 _ _ (by omega)).trans (by first | assumption | go_simp)
    have y1_1 : w.heap.size + 1 < w1.heap.size := by omega
    have k1_1_0 : w1.cell? ⟨w.heap.size + 1, 0, none⟩ = some (.slice A1 n1 cp1) := (c1 _ _ (by omega)).trans (by first | assumption | go_simp)
    clear c1 f1
    go_wp2_with fail
    go_ret
    refine ⟨rfl, ?_⟩
    (repeat (first | with_reducible exact Ext.refl _ | with_reducible assumption | with_reducible refine Ext.alloc ?_ _ | with_reducible refine Ext.drew ?_ | with_reducible refine Ext.drewN ?_ _ | (with_reducible refine Ext.setCell' ?_ ?_ _; (first | (with_reducible exact Nat.le_refl _) | omega | (dsimp only; omega) | (simp only [World.size_alloc]; omega))) | (with_reducible apply Ext.trans'; with_reducible assumption) | exact (Ext.refl _).drew | (refine Ext.drew ?_; assumption)))
  have hs0 := fun w' => sz_ledger A0 n0 cp0 hn0 (1048576 : Int) (by omega) (by omega) w'
  simp only [if_neg hg0] at hs0
  have HS0 := Lib.hid hs0
  clear hs0
  have hsm0 : n0 ≤ 1048576 := by omega
  by_cases hg1 : ((1048576 - (n0 : Int)) : Int) < n1
  case pos =>
    have hs1 := fun w' => sz_ledger A1 n1 cp1 hn1 ((1048576 - (n0 : Int)) : Int) (by omega) (by omega) w'
    simp only [if_pos hg1] at hs1
    have HS1 := Lib.hid hs1
    clear hs1
    go_enter Try.func5, Try.ntmps5
    go_wp2_with fail
    rw [HW.out]
    go_wp2_with fail
    refine (HS0.out _).mono ?_
    rintro e w1 ⟨rfl, b1⟩
    obtain ⟨c1, f1⟩ := b1.cells
    have z1 := b1.size
    try simp only [World.size_alloc] at c1 f1 z1
    have y1_0 : w.heap.size < w1.heap.size := by omega
    have k1_0_0 : w1.cell? ⟨w.heap.size, 0, none⟩ = some (.slice A0 n0 cp0) := (c1 _ _ (by omega)).trans (by first | assumption | go_simp)
    have y1_1 : w.heap.size + 1 < w1.heap.size := by omega
    have k1_1_0 : w1.cell? ⟨w.heap.size + 1, 0, none⟩ = some (.slice A1 n1 cp1) := (c1 _ _ (by omega)).trans (by first | assumption | go_simp)
    clear c1 f1
    go_wp2_with fail
    refine (HS1.out _).mono ?_
    rintro e w2 ⟨rfl, b2⟩
    obtain ⟨c2, f2⟩ := b2.cells
    have z2 := b2.size
    try simp only [World.size_alloc] at c2 f2 z2
    have y2_0 : w.heap.size < w2.heap.size := by omega
    have k2_0_0 : w2.cell? ⟨w.heap.size, 0, none⟩ = some (.slice A0 n0 cp0) := (c2 _ _ (by omega)).trans (by first | assumption | go_simp)
    have y2_1 : w.heap.size + 1 < w2.heap.size := by omega
    have k2_1_0 : w2.cell? ⟨w.heap.size + 1, 0, none⟩ = some (.slice A1 n1 cp1) := (c2 _ _ (by omega)).trans (by first | assumption | go_simp)
    clear c2 f2
    go_wp2_with fail
    go_ret
    refine ⟨rfl, ?_⟩
    (repeat (first | with_reducible exact Ext.refl _ | with_reducible assumption | with_reducible refine Ext.alloc ?_ _ | with_reducible refine Ext.drew ?_ | with_reducible refine Ext.drewN ?_ _ | (with_reducible refine Ext.setCell' ?_ ?_ _; (first | (with_reducible exact Nat.le_refl _) | omega | (dsimp only; omega) | (simp only [World.size_alloc]; omega))) | (with_reducible apply Ext.trans'; with_reducible assumption) | exact (Ext.refl _).drew | (refine Ext.drew ?_; assumption)))
  have hs1 := fun w' => sz_ledger A1 n1 cp1 hn1 ((1048576 - (n0 : Int)) : Int) (by omega) (by omega) w'
  simp only [if_neg hg1] at hs1
  have HS1 := Lib.hid hs1
  clear hs1
  have hsm1 : n1 ≤ 1048576 := by omega
  go_enter Try.func5, Try.ntmps5
  go_wp2_with fail
  rw [HW.out]
  go_wp2_with fail
  refine (HS0.out _).mono ?_
  rintro e w1 ⟨rfl, b1⟩
  obtain ⟨c1, f1⟩ := b1.cells
  have z1 := b1.size
  try simp only [World.size_alloc] at c1 f1 z1
  have y1_0 : w.heap.size < w1.heap.size := by omega
  have k1_0_0 : w1.cell? ⟨w.heap.size, 0, none⟩ = some (.slice A0 n0 cp0) := (c1 _ _ (by omega)).trans (by first | assumption | go_simp)
  have y1_1 : w.heap.size + 1 < w1.heap.size := by omega
  have k1_1_0 : w1.cell? ⟨w.heap.size + 1, 0, none⟩ = some (.slice A1 n1 cp1) := (c1 _ _ (by omega)).trans (by first | assumption | go_simp)
  clear c1 f1
  go_wp2_with fail
  refine (HS1.out _).mono ?_
  rintro e w2 ⟨rfl, b2⟩
  obtain ⟨c2, f2⟩ := b2.cells
  have z2 := b2.size
  try simp only [World.size_alloc] at c2 f2 z2
  have y2_0 : w.heap.size < w2.heap.size := by omega
  have k2_0_0 : w2.cell? ⟨w.heap.size, 0, none⟩ = some (.slice A0 n0 cp0) := (c2 _ _ (by omega)).trans (by first | assumption | go_simp)
  have y2_1 : w.heap.size + 1 < w2.heap.size := by omega
  have k2_1_0 : w2.cell? ⟨w.heap.size + 1, 0, none⟩ = some (.slice A1 n1 cp1) := (c2 _ _ (by omega)).trans (by first | assumption | go_simp)
  clear c2 f2
  go_wp2_with fail
  go_region_held3 (fun w' => (w'.cell? ⟨w.heap.size, 0, none⟩ = some (.slice A0 n0 cp0) ∧ w'.cell? ⟨w.heap.size + 1, 0, none⟩ = some (.slice A1 n1 cp1)) ∧ Ext w2 w') ((refine keepS ?_ (fun hX => ?_); (focus ((repeat (first | with_reducible exact Ext.refl _ | with_reducible assumption | with_reducible refine Ext.alloc ?_ _ | with_reducible refine Ext.drew ?_ | with_reducible refine Ext.drewN ?_ _ | (with_reducible refine Ext.setCell' ?_ ?_ _; (first | (with_reducible exact Nat.le_refl _) | omega | (dsimp only; omega) | (simp only [World.size_alloc]; omega))) | (with_reducible apply Ext.trans'; with_reducible assumption) | exact (Ext.refl _).drew | (refine Ext.drew ?_; assumption))); done)); (refine ⟨?_, ?_⟩ <;> (refine (hX.cell _ _ ?_).trans ?_; omega; assumption)))) (first | (go_at_call 17; (with_reducible refine (to_ledger _ _ _ _ hsm0 _ (HR0.out.ext (by (repeat (first | with_reducible exact Ext.refl _ | with_reducible assumption | with_reducible refine Ext.alloc ?_ _ | with_reducible refine Ext.drew ?_ | with_reducible refine Ext.drewN ?_ _ | (with_reducible refine Ext.setCell' ?_ ?_ _; (first | (with_reducible exact Nat.le_refl _) | omega | (dsimp only; omega) | (simp only [World.size_alloc]; omega))) | (with_reducible apply Ext.trans'; with_reducible assumption) | exact (Ext.refl _).drew | (refine Ext.drew ?_; assumption)))))).mono ?_); rintro e va0 ⟨ga0, _, rfl, hoa0, bva0⟩; have xva0 : Ext w2 va0 := (by (repeat (first | with_reducible exact Ext.refl _ | with_reducible assumption | with_reducible refine Ext.alloc ?_ _ | with_reducible refine Ext.drew ?_ | with_reducible refine Ext.drewN ?_ _ | (with_reducible refine Ext.setCell' ?_ ?_ _; (first | (with_reducible exact Nat.le_refl _) | omega | (dsimp only; omega) | (simp only [World.size_alloc]; omega))) | (with_reducible apply Ext.trans'; with_reducible assumption) | exact (Ext.refl _).drew | (refine Ext.drew ?_; assumption)))); have qva0_0 := (xva0.cell (w.heap.size) (0) (by omega)).trans k2_0_0; have qva0_1 := (xva0.cell (w.heap.size + 1) (0) (by omega)).trans k2_1_0) | (go_at_call 17; (with_reducible refine (to_ledger _ _ _ _ hsm1 _ (HR1.out.ext (by (repeat (first | with_reducible exact Ext.refl _ | with_reducible assumption | with_reducible refine Ext.alloc ?_ _ | with_reducible refine Ext.drew ?_ | with_reducible refine Ext.drewN ?_ _ | (with_reducible refine Ext.setCell' ?_ ?_ _; (first | (with_reducible exact Nat.le_refl _) | omega | (dsimp only; omega) | (simp only [World.size_alloc]; omega))) | (with_reducible apply Ext.trans'; with_reducible assumption) | exact (Ext.refl _).drew | (refine Ext.drew ?_; assumption)))))).mono ?_); rintro e va1 ⟨ga1, _, rfl, hoa1, bva1⟩; have xva1 : Ext w2 va1 := (by (repeat (first | with_reducible exact Ext.refl _ | with_reducible assumption | with_reducible refine Ext.alloc ?_ _ | with_reducible refine Ext.drew ?_ | with_reducible refine Ext.drewN ?_ _ | (with_reducible refine Ext.setCell' ?_ ?_ _; (first | (with_reducible exact Nat.le_refl _) | omega | (dsimp only; omega) | (simp only [World.size_alloc]; omega))) | (with_reducible apply Ext.trans'; with_reducible assumption) | exact (Ext.refl _).drew | (refine Ext.drew ?_; assumption)))); have qva1_0 := (xva1.cell (w.heap.size) (0) (by omega)).trans k2_0_0; have qva1_1 := (xva1.cell (w.heap.size + 1) (0) (by omega)).trans k2_1_0) | (go_at_call 22; refine (eql_spec _ _ _ _ _ _ _ _ hsm0 hsm1 _ ((Rd.of_own hoa0).ext (by (repeat (first | with_reducible exact Ext.refl _ | with_reducible assumption | with_reducible refine Ext.alloc ?_ _ | with_reducible refine Ext.drew ?_ | with_reducible refine Ext.drewN ?_ _ | (with_reducible refine Ext.setCell' ?_ ?_ _; (first | (with_reducible exact Nat.le_refl _) | omega | (dsimp only; omega) | (simp only [World.size_alloc]; omega))) | (with_reducible apply Ext.trans'; with_reducible assumption) | exact (Ext.refl _).drew | (refine Ext.drew ?_; assumption))))) ((Rd.of_own hoa1).ext (by (repeat (first | with_reducible exact Ext.refl _ | with_reducible assumption | with_reducible refine Ext.alloc ?_ _ | with_reducible refine Ext.drew ?_ | with_reducible refine Ext.drewN ?_ _ | (with_reducible refine Ext.setCell' ?_ ?_ _; (first | (with_reducible exact Nat.le_refl _) | omega | (dsimp only; omega) | (simp only [World.size_alloc]; omega))) | (with_reducible apply Ext.trans'; with_reducible assumption) | exact (Ext.refl _).drew | (refine Ext.drew ?_; assumption)))))).mono ?_; rintro e vs ⟨rfl, bvs⟩; have xvs : Ext w2 vs := (by (repeat (first | with_reducible exact Ext.refl _ | with_reducible assumption | with_reducible refine Ext.alloc ?_ _ | with_reducible refine Ext.drew ?_ | with_reducible refine Ext.drewN ?_ _ | (with_reducible refine Ext.setCell' ?_ ?_ _; (first | (with_reducible exact Nat.le_refl _) | omega | (dsimp only; omega) | (simp only [World.size_alloc]; omega))) | (with_reducible apply Ext.trans'; with_reducible assumption) | exact (Ext.refl _).drew | (refine Ext.drew ?_; assumption)))); have qvs_0 := (xvs.cell (w.heap.size) (0) (by omega)).trans k2_0_0; have qvs_1 := (xvs.cell (w.heap.size + 1) (0) (by omega)).trans k2_1_0))
  have b3 := xvs
  have z3 := b3.size
  have y3_0 : w.heap.size < vs.heap.size := by omega
  have k3_0_0 : vs.cell? ⟨w.heap.size, 0, none⟩ = some (.slice A0 n0 cp0) := (b3.cell _ _ (by omega)).trans k2_0_0
  have y3_1 : w.heap.size + 1 < vs.heap.size := by omega
  have k3_1_0 : vs.cell? ⟨w.heap.size + 1, 0, none⟩ = some (.slice A1 n1 cp1) := (b3.cell _ _ (by omega)).trans k2_1_0
  go_wp2_with fail
  refine (to_ledger _ _ _ _ hsm0 _ (HR0.out.ext (by (repeat (first | with_reducible exact Ext.refl _ | with_reducible assumption | with_reducible refine Ext.alloc ?_ _ | with_reducible refine Ext.drew ?_ | with_reducible refine Ext.drewN ?_ _ | (with_reducible refine Ext.setCell' ?_ ?_ _; (first | (with_reducible exact Nat.le_refl _) | omega | (dsimp only; omega) | (simp only [World.size_alloc]; omega))) | (with_reducible apply Ext.trans'; with_reducible assumption) | exact (Ext.refl _).drew | (refine Ext.drew ?_; assumption)))))).mono ?_
  rintro e w4 ⟨gx0, hgx0, rfl, hox0, b4⟩
  obtain ⟨c4, f4⟩ := b4.cells
  have z4 := b4.size
  try simp only [World.size_alloc] at c4 f4 z4
  have y4_0 : w.heap.size < w4.heap.size := by omega
  have k4_0_0 : w4.cell? ⟨w.heap.size, 0, none⟩ = some (.slice A0 n0 cp0) := (c4 _ _ (by omega)).trans (by first | assumption | go_simp)
  have y4_1 : w.heap.size + 1 < w4.heap.size := by omega
  have k4_1_0 : w4.cell? ⟨w.heap.size + 1, 0, none⟩ = some (.slice A1 n1 cp1) := (c4 _ _ (by omega)).trans (by first | assumption | go_simp)
  clear c4 f4
  have HOX0 := Lib.hid ((Rd.of_own hox0).alloc (.cells #[.slice (some ⟨gx0, 0, none⟩) n0 n0] 29))
  have ex0 := (Ext.refl w4).alloc (.cells #[.slice (some ⟨gx0, 0, none⟩) n0 n0] 29)
  clear hox0 hgx0
  go_wp2_with fail
  refine (to_ledger _ _ _ _ hsm1 _ (HR1.out.ext (by (repeat (first | with_reducible exact Ext.refl _ | with_reducible assumption | with_reducible refine Ext.alloc ?_ _ | with_reducible refine Ext.drew ?_ | with_reducible refine Ext.drewN ?_ _ | (with_reducible refine Ext.setCell' ?_ ?_ _; (first | (with_reducible exact Nat.le_refl _) | omega | (dsimp only; omega) | (simp only [World.size_alloc]; omega))) | (with_reducible apply Ext.trans'; with_reducible assumption) | exact (Ext.refl _).drew | (refine Ext.drew ?_; assumption)))))).mono ?_
  rintro e w5 ⟨gx1, hgx1, rfl, hox1, b5⟩
  obtain ⟨c5, f5⟩ := b5.cells
  have z5 := b5.size
  try simp only [World.size_alloc] at c5 f5 z5
  have y5_0 : w.heap.size < w5.heap.size := by omega
  have k5_0_0 : w5.cell? ⟨w.heap.size, 0, none⟩ = some (.slice A0 n0 cp0) := (c5 _ _ (by omega)).trans (by first | assumption | go_simp)
  have y5_1 : w.heap.size + 1 < w5.heap.size := by omega
  have k5_1_0 : w5.cell? ⟨w.heap.size + 1, 0, none⟩ = some (.slice A1 n1 cp1) := (c5 _ _ (by omega)).trans (by first | assumption | go_simp)
  have y5_2 : w4.heap.size < w5.heap.size := by omega
  have k5_2_0 : w5.cell? ⟨w4.heap.size, 0, none⟩ = some (.slice (some ⟨gx0, 0, none⟩) n0 n0) := (c5 _ _ (by omega)).trans (by first | assumption | go_simp)
  clear c5 f5
  have HOX1 := Lib.hid ((Rd.of_own hox1).alloc (.cells #[.slice (some ⟨gx1, 0, none⟩) n1 n1] 29))
  have ex1 := (Ext.refl w5).alloc (.cells #[.slice (some ⟨gx1, 0, none⟩) n1 n1] 29)
  clear hox1 hgx1
  go_wp2_with fail
  refine (eql_impl _ _ _ _ _ _ _ _ hsm0 hsm1 _ (HOX0.out.ext (by (repeat (first | with_reducible exact Ext.refl _ | with_reducible assumption | with_reducible refine Ext.alloc ?_ _ | with_reducible refine Ext.drew ?_ | with_reducible refine Ext.drewN ?_ _ | (with_reducible refine Ext.setCell' ?_ ?_ _; (first | (with_reducible exact Nat.le_refl _) | omega | (dsimp only; omega) | (simp only [World.size_alloc]; omega))) | (with_reducible apply Ext.trans'; with_reducible assumption) | exact (Ext.refl _).drew | (refine Ext.drew ?_; assumption))))) (HOX1.out.ext (by (repeat (first | with_reducible exact Ext.refl _ | with_reducible assumption | with_reducible refine Ext.alloc ?_ _ | with_reducible refine Ext.drew ?_ | with_reducible refine Ext.drewN ?_ _ | (with_reducible refine Ext.setCell' ?_ ?_ _; (first | (with_reducible exact Nat.le_refl _) | omega | (dsimp only; omega) | (simp only [World.size_alloc]; omega))) | (with_reducible apply Ext.trans'; with_reducible assumption) | exact (Ext.refl _).drew | (refine Ext.drew ?_; assumption)))))).mono ?_
  rintro e w6 ⟨rfl, b6⟩
  obtain ⟨c6, f6⟩ := b6.cells
  have z6 := b6.size
  try simp only [World.size_alloc] at c6 f6 z6
  have y6_0 : w.heap.size < w6.heap.size := by omega
  have k6_0_0 : w6.cell? ⟨w.heap.size, 0, none⟩ = some (.slice A0 n0 cp0) := (c6 _ _ (by omega)).trans (by first | assumption | go_simp)
  have y6_1 : w.heap.size + 1 < w6.heap.size := by omega
  have k6_1_0 : w6.cell? ⟨w.heap.size + 1, 0, none⟩ = some (.slice A1 n1 cp1) := (c6 _ _ (by omega)).trans (by first | assumption | go_simp)
  have y6_2 : w4.heap.size < w6.heap.size := by omega
  have k6_2_0 : w6.cell? ⟨w4.heap.size, 0, none⟩ = some (.slice (some ⟨gx0, 0, none⟩) n0 n0) := (c6 _ _ (by omega)).trans (by first | assumption | go_simp)
  have y6_3 : w5.heap.size < w6.heap.size := by omega
  have k6_3_0 : w6.cell? ⟨w5.heap.size, 0, none⟩ = some (.slice (some ⟨gx1, 0, none⟩) n1 n1) := (c6 _ _ (by omega)).trans (by first | assumption | go_simp)
  clear c6 f6
  go_wp2_with fail
  go_region_held3 (fun w' => (w'.cell? ⟨w4.heap.size, 0, none⟩ = some (.slice (some ⟨gx0, 0, none⟩) n0 n0) ∧ w'.cell? ⟨w.heap.size, 0, none⟩ = some (.slice A0 n0 cp0)) ∧ Ext w6 w') ((refine keepS ?_ (fun hX => ?_); (focus ((repeat (first | with_reducible exact Ext.refl _ | with_reducible assumption | with_reducible refine Ext.alloc ?_ _ | with_reducible refine Ext.drew ?_ | with_reducible refine Ext.drewN ?_ _ | (with_reducible refine Ext.setCell' ?_ ?_ _; (first | (with_reducible exact Nat.le_refl _) | omega | (dsimp only; omega) | (simp only [World.size_alloc]; omega))) | (with_reducible apply Ext.trans'; with_reducible assumption) | exact (Ext.refl _).drew | (refine Ext.drew ?_; assumption))); done)); (refine ⟨?_, ?_⟩ <;> (refine (hX.cell _ _ ?_).trans ?_; omega; assumption)))) (first | (go_at_call 17; refine (to_ledger _ _ _ _ hsm0 _ (HR0.out.ext (by (repeat (first | with_reducible exact Ext.refl _ | with_reducible assumption | with_reducible refine Ext.alloc ?_ _ | with_reducible refine Ext.drew ?_ | with_reducible refine Ext.drewN ?_ _ | (with_reducible refine Ext.setCell' ?_ ?_ _; (first | (with_reducible exact Nat.le_refl _) | omega | (dsimp only; omega) | (simp only [World.size_alloc]; omega))) | (with_reducible apply Ext.trans'; with_reducible assumption) | exact (Ext.refl _).drew | (refine Ext.drew ?_; assumption)))))).mono ?_; rintro e vy0 ⟨gy0, _, rfl, hoy0, bvy0⟩; have xvy0 : Ext w6 vy0 := (by (repeat (first | with_reducible exact Ext.refl _ | with_reducible assumption | with_reducible refine Ext.alloc ?_ _ | with_reducible refine Ext.drew ?_ | with_reducible refine Ext.drewN ?_ _ | (with_reducible refine Ext.setCell' ?_ ?_ _; (first | (with_reducible exact Nat.le_refl _) | omega | (dsimp only; omega) | (simp only [World.size_alloc]; omega))) | (with_reducible apply Ext.trans'; with_reducible assumption) | exact (Ext.refl _).drew | (refine Ext.drew ?_; assumption)))); have qvy0_0 := (xvy0.cell (w4.heap.size) (0) (by omega)).trans k6_2_0; have qvy0_1 := (xvy0.cell (w.heap.size) (0) (by omega)).trans k6_0_0) | (go_at_call 19; refine (eq_ledger _ _ _ _ _ _ hsm0 _ (HOX0.out.ext (by (repeat (first | with_reducible exact Ext.refl _ | with_reducible assumption | with_reducible refine Ext.alloc ?_ _ | with_reducible refine Ext.drew ?_ | with_reducible refine Ext.drewN ?_ _ | (with_reducible refine Ext.setCell' ?_ ?_ _; (first | (with_reducible exact Nat.le_refl _) | omega | (dsimp only; omega) | (simp only [World.size_alloc]; omega))) | (with_reducible apply Ext.trans'; with_reducible assumption) | exact (Ext.refl _).drew | (refine Ext.drew ?_; assumption))))) (Rd.of_own hoy0)).mono ?_; rintro e vz0 ⟨rfl, bvz0⟩; have xvz0 : Ext w6 vz0 := (by (repeat (first | with_reducible exact Ext.refl _ | with_reducible assumption | with_reducible refine Ext.alloc ?_ _ | with_reducible refine Ext.drew ?_ | with_reducible refine Ext.drewN ?_ _ | (with_reducible refine Ext.setCell' ?_ ?_ _; (first | (with_reducible exact Nat.le_refl _) | omega | (dsimp only; omega) | (simp only [World.size_alloc]; omega))) | (with_reducible apply Ext.trans'; with_reducible assumption) | exact (Ext.refl _).drew | (refine Ext.drew ?_; assumption)))); have qvz0_0 := (xvz0.cell (w4.heap.size) (0) (by omega)).trans k6_2_0; have qvz0_1 := (xvz0.cell (w.heap.size) (0) (by omega)).trans k6_0_0))
  have b7 := xvz0
  have z7 := b7.size
  have y7_0 : w.heap.size < vz0.heap.size := by omega
  have k7_0_0 : vz0.cell? ⟨w.heap.size, 0, none⟩ = some (.slice A0 n0 cp0) := (b7.cell _ _ (by omega)).trans k6_0_0
  have y7_1 : w.heap.size + 1 < vz0.heap.size := by omega
  have k7_1_0 : vz0.cell? ⟨w.heap.size + 1, 0, none⟩ = some (.slice A1 n1 cp1) := (b7.cell _ _ (by omega)).trans k6_1_0
  have y7_2 : w4.heap.size < vz0.heap.size := by omega
  have k7_2_0 : vz0.cell? ⟨w4.heap.size, 0, none⟩ = some (.slice (some ⟨gx0, 0, none⟩) n0 n0) := (b7.cell _ _ (by omega)).trans k6_2_0
  have y7_3 : w5.heap.size < vz0.heap.size := by omega
  have k7_3_0 : vz0.cell? ⟨w5.heap.size, 0, none⟩ = some (.slice (some ⟨gx1, 0, none⟩) n1 n1) := (b7.cell _ _ (by omega)).trans k6_3_0
  go_wp2_with fail
  go_region_held3 (fun w' => (w'.cell? ⟨w5.heap.size, 0, none⟩ = some (.slice (some ⟨gx1, 0, none⟩) n1 n1) ∧ w'.cell? ⟨w.heap.size + 1, 0, none⟩ = some (.slice A1 n1 cp1)) ∧ Ext vz0 w') ((refine keepS ?_ (fun hX => ?_); (focus ((repeat (first | with_reducible exact Ext.refl _ | with_reducible assumption | with_reducible refine Ext.alloc ?_ _ | with_reducible refine Ext.drew ?_ | with_reducible refine Ext.drewN ?_ _ | (with_reducible refine Ext.setCell' ?_ ?_ _; (first | (with_reducible exact Nat.le_refl _) | omega | (dsimp only; omega) | (simp only [World.size_alloc]; omega))) | (with_reducible apply Ext.trans'; with_reducible assumption) | exact (Ext.refl _).drew | (refine Ext.drew ?_; assumption))); done)); (refine ⟨?_, ?_⟩ <;> (refine (hX.cell _ _ ?_).trans ?_; omega; assumption)))) (first | (go_at_call 17; refine (to_ledger _ _ _ _ hsm1 _ (HR1.out.ext (by (repeat (first | with_reducible exact Ext.refl _ | with_reducible assumption | with_reducible refine Ext.alloc ?_ _ | with_reducible refine Ext.drew ?_ | with_reducible refine Ext.drewN ?_ _ | (with_reducible refine Ext.setCell' ?_ ?_ _; (first | (with_reducible exact Nat.le_refl _) | omega | (dsimp only; omega) | (simp only [World.size_alloc]; omega))) | (with_reducible apply Ext.trans'; with_reducible assumption) | exact (Ext.refl _).drew | (refine Ext.drew ?_; assumption)))))).mono ?_; rintro e vy1 ⟨gy1, _, rfl, hoy1, bvy1⟩; have xvy1 : Ext vz0 vy1 := (by (repeat (first | with_reducible exact Ext.refl _ | with_reducible assumption | with_reducible refine Ext.alloc ?_ _ | with_reducible refine Ext.drew ?_ | with_reducible refine Ext.drewN ?_ _ | (with_reducible refine Ext.setCell' ?_ ?_ _; (first | (with_reducible exact Nat.le_refl _) | omega | (dsimp only; omega) | (simp only [World.size_alloc]; omega))) | (with_reducible apply Ext.trans'; with_reducible assumption) | exact (Ext.refl _).drew | (refine Ext.drew ?_; assumption)))); have qvy1_0 := (xvy1.cell (w5.heap.size) (0) (by omega)).trans k7_3_0; have qvy1_1 := (xvy1.cell (w.heap.size + 1) (0) (by omega)).trans k7_1_0) | (go_at_call 19; refine (eq_ledger _ _ _ _ _ _ hsm1 _ (HOX1.out.ext (by (repeat (first | with_reducible exact Ext.refl _ | with_reducible assumption | with_reducible refine Ext.alloc ?_ _ | with_reducible refine Ext.drew ?_ | with_reducible refine Ext.drewN ?_ _ | (with_reducible refine Ext.setCell' ?_ ?_ _; (first | (with_reducible exact Nat.le_refl _) | omega | (dsimp only; omega) | (simp only [World.size_alloc]; omega))) | (with_reducible apply Ext.trans'; with_reducible assumption) | exact (Ext.refl _).drew | (refine Ext.drew ?_; assumption))))) (Rd.of_own hoy1)).mono ?_; rintro e vz1 ⟨rfl, bvz1⟩; have xvz1 : Ext vz0 vz1 := (by (repeat (first | with_reducible exact Ext.refl _ | with_reducible assumption | with_reducible refine Ext.alloc ?_ _ | with_reducible refine Ext.drew ?_ | with_reducible refine Ext.drewN ?_ _ | (with_reducible refine Ext.setCell' ?_ ?_ _; (first | (with_reducible exact Nat.le_refl _) | omega | (dsimp only; omega) | (simp only [World.size_alloc]; omega))) | (with_reducible apply Ext.trans'; with_reducible assumption) | exact (Ext.refl _).drew | (refine Ext.drew ?_; assumption)))); have qvz1_0 := (xvz1.cell (w5.heap.size) (0) (by omega)).trans k7_3_0; have qvz1_1 := (xvz1.cell (w.heap.size + 1) (0) (by omega)).trans k7_1_0))
  have b8 := xvz1
  have z8 := b8.size
  have y8_0 : w.heap.size < vz1.heap.size := by omega
  have k8_0_0 : vz1.cell? ⟨w.heap.size, 0, none⟩ = some (.slice A0 n0 cp0) := (b8.cell _ _ (by omega)).trans k7_0_0
  have y8_1 : w.heap.size + 1 < vz1.heap.size := by omega
  have k8_1_0 : vz1.cell? ⟨w.heap.size + 1, 0, none⟩ = some (.slice A1 n1 cp1) := (b8.cell _ _ (by omega)).trans k7_1_0
  have y8_2 : w4.heap.size < vz1.heap.size := by omega
  have k8_2_0 : vz1.cell? ⟨w4.heap.size, 0, none⟩ = some (.slice (some ⟨gx0, 0, none⟩) n0 n0) := (b8.cell _ _ (by omega)).trans k7_2_0
  have y8_3 : w5.heap.size < vz1.heap.size := by omega
  have k8_3_0 : vz1.cell? ⟨w5.heap.size, 0, none⟩ = some (.slice (some ⟨gx1, 0, none⟩) n1 n1) := (b8.cell _ _ (by omega)).trans k7_3_0
  go_wp2_with fail
  go_ret
  refine ⟨rfl, ?_⟩
  (repeat (first | with_reducible exact Ext.refl _ | with_reducible assumption | with_reducible refine Ext.alloc ?_ _ | with_reducible refine Ext.drew ?_ | with_reducible refine Ext.drewN ?_ _ | (with_reducible refine Ext.setCell' ?_ ?_ _; (first | (with_reducible exact Nat.le_refl _) | omega | (dsimp only; omega) | (simp only [World.size_alloc]; omega))) | (with_reducible apply Ext.trans'; with_reducible assumption) | exact (Ext.refl _).drew | (refine Ext.drew ?_; assumption)))

set_option maxRecDepth 100000 in
theorem walk : LawWalk 5 Try.f5 := by
  intro H enc W base args ds p hval hA
  rw [Try.params5] at hA hval
  obtain ⟨v0, vs0, d0, ds0, p0, q0, hargs, rfl, rfl, h0, r0⟩ := trodAll_cons hA
  obtain ⟨v1, vs1, d1, ds1, p1, q1, rfl, rfl, rfl, h1, r1⟩ := trodAll_cons r0
  obtain ⟨rfl, rfl, rfl⟩ := trodAll_nil r1
  obtain rfl : args = #[v0, v1] := by cases args; simp_all
  obtain ⟨A0, n0, cp0, xs0, rfl, hn0, hr0, rgs0⟩ := open_ledger (hval 0 _ v0 rfl rfl) h0
  obtain ⟨A1, n1, cp1, xs1, rfl, hn1, hr1, rgs1⟩ := open_ledger (hval 1 _ v1 rfl rfl) h1
  exact law A0 n0 cp0 xs0 hn0 A1 n1 cp1 xs1 hn1 W hr0 hr1

set_option maxRecDepth 100000 in
theorem over : Rows.fnExactEqualLedgersRow.holds Try.pinned (OpenSpec.ofChange Rows.fnExactEqualLedgersSpec) :=
  OpenClaim.holds_of_wide 5 Try.f5 rfl rfl rfl rfl rfl rfl rfl ⟨rfl, rfl, rfl, rfl, rfl⟩ rfl rfl rfl rfl rfl (by kernel_rfl) Try.func5 (by kernel_rfl)
    (of_decide_eq_true (by kernel_rfl)) (by unfold Func.isWrapper; first | (rw [if_pos (by decide +kernel)]; kernel_rfl) | (rw [if_neg (by decide +kernel)]; exact ⟨rfl, rfl⟩))
    (fun os started H enc _ => lifted_of (s := Rows.fnExactEqualLedgersSpec) (conds := Rows.fnExactEqualLedgersRow.domain) os started H enc (by kernel_rfl) Try.func5
      (ChangeSpec.witness6 (enc := enc) (C := Try.checked) false ⟨#[], #[.agg #[.slice none 0 0], .agg #[.slice none 0 0]], []⟩ 8 (by kernel_rfl) (by kernel_rfl) (by kernel_rfl) (by kernel_rfl))
      (by kernel_rfl) rfl (by kernel_rfl) (fun ds h => by match ds, h with | [d1, d2], _ => rfl) walk)

theorem proved : Rows.FnExactEqualLedgersSaid := over
#print axioms proved
end Go.Proofs.Ytefkjkbipkcncaa.fnExactEqualLedgers
