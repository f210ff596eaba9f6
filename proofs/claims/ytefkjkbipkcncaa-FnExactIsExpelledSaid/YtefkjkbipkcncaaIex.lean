/-
  IsExpelled of the program returns what the reference's returns, for every argument.
-/
import Derived.Test.YtefkjkbipkcncaaExpel
import Derived.Deep.RegionHeld3
namespace Go.Proofs.Ytefkjkbipkcncaa.fnExactIsExpelled
open Go.ChangeShapes Go.WideShapes Go.ChangeAt Go.RowKit
set_option linter.unusedVariables false
set_option maxHeartbeats 3200000 in
theorem law (A0 : Option Addr) (n0 c0 : Nat) (xs0 : List Tri) (hn0 : n0 ≤ 9223372036854775807) (node : Int) (rg1 : I64 node) (w : World) (hr0 : Rd w 3 A0 n0 (tris xs0)) :
    Calls Try.prog 4 #[.agg #[.slice A0 n0 c0], .int .i64 node] w fun e w' => e = .returned (.bool true) ∧ Ext w w' := by
  obtain ⟨W, hW⟩ : ∃ W, (w.alloc (.cells #[.slice A0 n0 c0] 24)) = W := ⟨_, rfl⟩
  have HW := Lib.hid hW
  have eW : Ext w W := by rw [← hW]; (repeat (first | with_reducible exact Ext.refl _ | with_reducible assumption | with_reducible refine Ext.alloc ?_ _ | with_reducible refine Ext.drew ?_ | with_reducible refine Ext.drewN ?_ _ | (with_reducible refine Ext.setCell' ?_ ?_ _; (first | (with_reducible exact Nat.le_refl _) | omega | (dsimp only; omega) | (simp only [World.size_alloc]; omega))) | (with_reducible apply Ext.trans'; with_reducible assumption) | exact (Ext.refl _).drew | (refine Ext.drew ?_; assumption)))
  clear hW
  have zW0 : w.heap.size < W.heap.size := by rw [← HW.out]; simp
  have kW_0_0 : W.cell? ⟨w.heap.size, 0, none⟩ = some (.slice A0 n0 c0) := by rw [← HW.out]; go_simp
  have HR0 := Lib.hid (hr0.ext eW)
  clear hr0
  by_cases hg0 : (1048576 : Int) < n0
  case pos =>
    have hs0 := fun w' => sz_ledger A0 n0 c0 hn0 (1048576 : Int) (by omega) (by omega) w'
    simp only [if_pos hg0] at hs0
    have HS0 := Lib.hid hs0
    clear hs0
    go_enter Try.func4, Try.ntmps4
    go_wp2_with fail
    rw [HW.out]
    go_wp2_with fail
    refine (HS0.out _).mono ?_
    rintro e w1 ⟨rfl, b1⟩
    obtain ⟨c1, f1⟩ := b1.cells
    have z1 := b1.size
    try simp only [World.size_alloc] at c1 f1 z1
    have y1_0 : w.heap.size < w1.heap.size := by omega
    have k1_0_0 : w1.cell? ⟨w.heap.size, 0, none⟩ = some (.slice A0 n0 c0) := (c1 _ _ (by omega)).trans (by first | assumption | go_simp)
    clear c1 f1
    go_wp2_with fail
    go_ret
    refine ⟨rfl, ?_⟩
    (repeat (first | with_reducible exact Ext.refl _ | with_reducible assumption | with_reducible refine Ext.alloc ?_ _ | with_reducible refine Ext.drew ?_ | with_reducible refine Ext.drewN ?_ _ | (with_reducible refine Ext.setCell' ?_ ?_ _; (first | (with_reducible exact Nat.le_refl _) | omega | (dsimp only; omega) | (simp only [World.size_alloc]; omega))) | (with_reducible apply Ext.trans'; with_reducible assumption) | exact (Ext.refl _).drew | (refine Ext.drew ?_; assumption)))
  have hs0 := fun w' => sz_ledger A0 n0 c0 hn0 (1048576 : Int) (by omega) (by omega) w'
  simp only [if_neg hg0] at hs0
  have HS0 := Lib.hid hs0
  clear hs0
  have hsm0 : n0 ≤ 1048576 := by omega
  go_enter Try.func4, Try.ntmps4
  go_wp2_with fail
  rw [HW.out]
  go_wp2_with fail
  refine (HS0.out _).mono ?_
  rintro e w1 ⟨rfl, b1⟩
  obtain ⟨c1, f1⟩ := b1.cells
  have z1 := b1.size
  try simp only [World.size_alloc] at c1 f1 z1
  have y1_0 : w.heap.size < w1.heap.size := by omega
  have k1_0_0 : w1.cell? ⟨w.heap.size, 0, none⟩ = some (.slice A0 n0 c0) := (c1 _ _ (by omega)).trans (by first | assumption | go_simp)
  clear c1 f1
  go_wp2_with fail
  refine (to_ledger _ _ _ _ hsm0 _ (HR0.out.ext (by (repeat (first | with_reducible exact Ext.refl _ | with_reducible assumption | with_reducible refine Ext.alloc ?_ _ | with_reducible refine Ext.drew ?_ | with_reducible refine Ext.drewN ?_ _ | (with_reducible refine Ext.setCell' ?_ ?_ _; (first | (with_reducible exact Nat.le_refl _) | omega | (dsimp only; omega) | (simp only [World.size_alloc]; omega))) | (with_reducible apply Ext.trans'; with_reducible assumption) | exact (Ext.refl _).drew | (refine Ext.drew ?_; assumption)))))).mono ?_
  rintro e w2 ⟨ga0, hga0, rfl, hoa0, b2⟩
  obtain ⟨c2, f2⟩ := b2.cells
  have z2 := b2.size
  try simp only [World.size_alloc] at c2 f2 z2
  have y2_0 : w.heap.size < w2.heap.size := by omega
  have k2_0_0 : w2.cell? ⟨w.heap.size, 0, none⟩ = some (.slice A0 n0 c0) := (c2 _ _ (by omega)).trans (by first | assumption | go_simp)
  clear c2 f2
  have HOA0 := Lib.hid (Rd.of_own hoa0)
  clear hoa0 hga0
  go_wp2_with fail
  refine (expel_spec _ _ _ _ _ hsm0 _ (HOA0.out.ext (by (repeat (first | with_reducible exact Ext.refl _ | with_reducible assumption | with_reducible refine Ext.alloc ?_ _ | with_reducible refine Ext.drew ?_ | with_reducible refine Ext.drewN ?_ _ | (with_reducible refine Ext.setCell' ?_ ?_ _; (first | (with_reducible exact Nat.le_refl _) | omega | (dsimp only; omega) | (simp only [World.size_alloc]; omega))) | (with_reducible apply Ext.trans'; with_reducible assumption) | exact (Ext.refl _).drew | (refine Ext.drew ?_; assumption)))))).mono ?_
  rintro e w3 ⟨rfl, b3⟩
  obtain ⟨c3, f3⟩ := b3.cells
  have z3 := b3.size
  try simp only [World.size_alloc] at c3 f3 z3
  have y3_0 : w.heap.size < w3.heap.size := by omega
  have k3_0_0 : w3.cell? ⟨w.heap.size, 0, none⟩ = some (.slice A0 n0 c0) := (c3 _ _ (by omega)).trans (by first | assumption | go_simp)
  clear c3 f3
  go_wp2_with fail
  refine (to_ledger _ _ _ _ hsm0 _ (HR0.out.ext (by (repeat (first | with_reducible exact Ext.refl _ | with_reducible assumption | with_reducible refine Ext.alloc ?_ _ | with_reducible refine Ext.drew ?_ | with_reducible refine Ext.drewN ?_ _ | (with_reducible refine Ext.setCell' ?_ ?_ _; (first | (with_reducible exact Nat.le_refl _) | omega | (dsimp only; omega) | (simp only [World.size_alloc]; omega))) | (with_reducible apply Ext.trans'; with_reducible assumption) | exact (Ext.refl _).drew | (refine Ext.drew ?_; assumption)))))).mono ?_
  rintro e w4 ⟨gx0, hgx0, rfl, hox0, b4⟩
  obtain ⟨c4, f4⟩ := b4.cells
  have z4 := b4.size
  try simp only [World.size_alloc] at c4 f4 z4
  have y4_0 : w.heap.size < w4.heap.size := by omega
  have k4_0_0 : w4.cell? ⟨w.heap.size, 0, none⟩ = some (.slice A0 n0 c0) := (c4 _ _ (by omega)).trans (by first | assumption | go_simp)
  clear c4 f4
  have HOX0 := Lib.hid ((Rd.of_own hox0).alloc (.cells #[.slice (some ⟨gx0, 0, none⟩) n0 n0] 29))
  have ex0 := (Ext.refl w4).alloc (.cells #[.slice (some ⟨gx0, 0, none⟩) n0 n0] 29)
  clear hox0 hgx0
  go_wp2_with fail
  refine (expel_impl _ _ _ _ _ hsm0 _ (HOX0.out.ext (by (repeat (first | with_reducible exact Ext.refl _ | with_reducible assumption | with_reducible refine Ext.alloc ?_ _ | with_reducible refine Ext.drew ?_ | with_reducible refine Ext.drewN ?_ _ | (with_reducible refine Ext.setCell' ?_ ?_ _; (first | (with_reducible exact Nat.le_refl _) | omega | (dsimp only; omega) | (simp only [World.size_alloc]; omega))) | (with_reducible apply Ext.trans'; with_reducible assumption) | exact (Ext.refl _).drew | (refine Ext.drew ?_; assumption)))))).mono ?_
  rintro e w5 ⟨rfl, b5⟩
  obtain ⟨c5, f5⟩ := b5.cells
  have z5 := b5.size
  try simp only [World.size_alloc] at c5 f5 z5
  have y5_0 : w.heap.size < w5.heap.size := by omega
  have k5_0_0 : w5.cell? ⟨w.heap.size, 0, none⟩ = some (.slice A0 n0 c0) := (c5 _ _ (by omega)).trans (by first | assumption | go_simp)
  have y5_1 : w4.heap.size < w5.heap.size := by omega
  have k5_1_0 : w5.cell? ⟨w4.heap.size, 0, none⟩ = some (.slice (some ⟨gx0, 0, none⟩) n0 n0) := (c5 _ _ (by omega)).trans (by first | assumption | go_simp)
  clear c5 f5
  go_wp2_with fail
  go_region_held3 (fun w' => (w'.cell? ⟨w4.heap.size, 0, none⟩ = some (.slice (some ⟨gx0, 0, none⟩) n0 n0) ∧ w'.cell? ⟨w.heap.size, 0, none⟩ = some (.slice A0 n0 c0)) ∧ Ext w5 w') ((refine keepS ?_ (fun hX => ?_); (focus ((repeat (first | with_reducible exact Ext.refl _ | with_reducible assumption | with_reducible refine Ext.alloc ?_ _ | with_reducible refine Ext.drew ?_ | with_reducible refine Ext.drewN ?_ _ | (with_reducible refine Ext.setCell' ?_ ?_ _; (first | (with_reducible exact Nat.le_refl _) | omega | (dsimp only; omega) | (simp only [World.size_alloc]; omega))) | (with_reducible apply Ext.trans'; with_reducible assumption) | exact (Ext.refl _).drew | (refine Ext.drew ?_; assumption))); done)); (refine ⟨?_, ?_⟩ <;> (refine (hX.cell _ _ ?_).trans ?_; omega; assumption)))) (first | (go_at_call 17; refine (to_ledger _ _ _ _ hsm0 _ (HR0.out.ext (by (repeat (first | with_reducible exact Ext.refl _ | with_reducible assumption | with_reducible refine Ext.alloc ?_ _ | with_reducible refine Ext.drew ?_ | with_reducible refine Ext.drewN ?_ _ | (with_reducible refine Ext.setCell' ?_ ?_ _; (first | (with_reducible exact Nat.le_refl _) | omega | (dsimp only; omega) | (simp only [World.size_alloc]; omega))) | (with_reducible apply Ext.trans'; with_reducible assumption) | exact (Ext.refl _).drew | (refine Ext.drew ?_; assumption)))))).mono ?_; rintro e vy0 ⟨gy0, _, rfl, hoy0, bvy0⟩; have xvy0 : Ext w5 vy0 := (by (repeat (first | with_reducible exact Ext.refl _ | with_reducible assumption | with_reducible refine Ext.alloc ?_ _ | with_reducible refine Ext.drew ?_ | with_reducible refine Ext.drewN ?_ _ | (with_reducible refine Ext.setCell' ?_ ?_ _; (first | (with_reducible exact Nat.le_refl _) | omega | (dsimp only; omega) | (simp only [World.size_alloc]; omega))) | (with_reducible apply Ext.trans'; with_reducible assumption) | exact (Ext.refl _).drew | (refine Ext.drew ?_; assumption)))); have qvy0_0 := (xvy0.cell (w4.heap.size) (0) (by omega)).trans k5_1_0; have qvy0_1 := (xvy0.cell (w.heap.size) (0) (by omega)).trans k5_0_0) | (go_at_call 19; refine (eq_ledger _ _ _ _ _ _ hsm0 _ (HOX0.out.ext (by (repeat (first | with_reducible exact Ext.refl _ | with_reducible assumption | with_reducible refine Ext.alloc ?_ _ | with_reducible refine Ext.drew ?_ | with_reducible refine Ext.drewN ?_ _ | (with_reducible refine Ext.setCell' ?_ ?_ _; (first | (with_reducible exact Nat.le_refl _) | omega | (dsimp only; omega) | (simp only [World.size_alloc]; omega))) | (with_reducible apply Ext.trans'; with_reducible assumption) | exact (Ext.refl _).drew | (refine Ext.drew ?_; assumption))))) (Rd.of_own hoy0)).mono ?_; rintro e vz0 ⟨rfl, bvz0⟩; have xvz0 : Ext w5 vz0 := (by (repeat (first | with_reducible exact Ext.refl _ | with_reducible assumption | with_reducible refine Ext.alloc ?_ _ | with_reducible refine Ext.drew ?_ | with_reducible refine Ext.drewN ?_ _ | (with_reducible refine Ext.setCell' ?_ ?_ _; (first | (with_reducible exact Nat.le_refl _) | omega | (dsimp only; omega) | (simp only [World.size_alloc]; omega))) | (with_reducible apply Ext.trans'; with_reducible assumption) | exact (Ext.refl _).drew | (refine Ext.drew ?_; assumption)))); have qvz0_0 := (xvz0.cell (w4.heap.size) (0) (by omega)).trans k5_1_0; have qvz0_1 := (xvz0.cell (w.heap.size) (0) (by omega)).trans k5_0_0))
  have b6 := xvz0
  have z6 := b6.size
  have y6_0 : w.heap.size < vz0.heap.size := by omega
  have k6_0_0 : vz0.cell? ⟨w.heap.size, 0, none⟩ = some (.slice A0 n0 c0) := (b6.cell _ _ (by omega)).trans k5_0_0
  have y6_1 : w4.heap.size < vz0.heap.size := by omega
  have k6_1_0 : vz0.cell? ⟨w4.heap.size, 0, none⟩ = some (.slice (some ⟨gx0, 0, none⟩) n0 n0) := (b6.cell _ _ (by omega)).trans k5_1_0
  go_wp2_with fail
  go_ret
  refine ⟨rfl, ?_⟩
  (repeat (first | with_reducible exact Ext.refl _ | with_reducible assumption | with_reducible refine Ext.alloc ?_ _ | with_reducible refine Ext.drew ?_ | with_reducible refine Ext.drewN ?_ _ | (with_reducible refine Ext.setCell' ?_ ?_ _; (first | (with_reducible exact Nat.le_refl _) | omega | (dsimp only; omega) | (simp only [World.size_alloc]; omega))) | (with_reducible apply Ext.trans'; with_reducible assumption) | exact (Ext.refl _).drew | (refine Ext.drew ?_; assumption)))

set_option maxRecDepth 100000 in
theorem walk : LawWalk 4 Try.f4 := by
  intro H enc W base args ds p hval hA
  rw [Try.params4] at hA hval
  obtain ⟨v0, vs0, d0, ds0, p0, q0, hargs, rfl, rfl, h0, r0⟩ := trodAll_cons hA
  obtain ⟨v1, vs1, d1, ds1, p1, q1, rfl, rfl, rfl, h1, r1⟩ := trodAll_cons r0
  obtain ⟨rfl, rfl, rfl⟩ := trodAll_nil r1
  obtain rfl : args = #[v0, v1] := by cases args; simp_all
  obtain ⟨A0, n0, c0, xs0, rfl, hn0, hr0, rgs0⟩ := open_ledger (hval 0 _ v0 rfl rfl) h0
  obtain ⟨node, rfl, rg1⟩ := outer_int Try.underlying3 (hval 1 _ v1 rfl rfl) h1
  exact law A0 n0 c0 xs0 hn0 node rg1 W hr0 

set_option maxRecDepth 100000 in
theorem over : Rows.fnExactIsExpelledRow.holds Try.pinned (OpenSpec.ofChange Rows.fnExactIsExpelledSpec) :=
  OpenClaim.holds_of_wide 4 Try.f4 rfl rfl rfl rfl rfl rfl rfl ⟨rfl, rfl, rfl, rfl, rfl⟩ rfl rfl rfl rfl rfl (by kernel_rfl) Try.func4 (by kernel_rfl)
    (of_decide_eq_true (by kernel_rfl)) (by unfold Func.isWrapper; first | (rw [if_pos (by decide +kernel)]; kernel_rfl) | (rw [if_neg (by decide +kernel)]; exact ⟨rfl, rfl⟩))
    (fun os started H enc _ => lifted_of (s := Rows.fnExactIsExpelledSpec) (conds := Rows.fnExactIsExpelledRow.domain) os started H enc (by kernel_rfl) Try.func4
      (ChangeSpec.witness6 (enc := enc) (C := Try.checked) false ⟨#[], #[.agg #[.slice none 0 0], .int .i64 0], []⟩ 8 (by kernel_rfl) (by kernel_rfl) (by kernel_rfl) (by kernel_rfl))
      (by kernel_rfl) rfl (by kernel_rfl) (fun ds h => by match ds, h with | [d1, d2], _ => rfl) walk)

theorem proved : Rows.FnExactIsExpelledSaid := over
#print axioms proved
end Go.Proofs.Ytefkjkbipkcncaa.fnExactIsExpelled
