/-
  IsValidGroup of the program returns what the reference's returns, for every argument.
-/
import Derived.Test.YtekelmhlpinimaaGroupL
import Derived.Deep.RegionHeld3
namespace Go.Proofs.Ytekelmhlpinimaa.fnExactIsValidGroup
open Go.ChangeShapes Go.WideShapes Go.ChangeAt Go.RowKit

theorem group_impl_e (m ep : Int) (A : Option Addr) (n c : Nat) (xs : List Int) (hn : n ≤ 4611686018427387904) (w : World) (hr : Rd w 1 A n (ints xs)) :
    Calls Try.prog 24 #[.agg #[.int .i64 m, .int .i64 ep, .slice A n c]] w fun e w' => e = .returned (.bool (gvB m ep xs)) ∧ Ext w w' :=
  (group_impl m ep A n c xs hn w hr).mono fun e w' ⟨h1, q, h2⟩ => ⟨h1, by rw [h2]; exact ((Ext.refl w).alloc _).drewN q⟩
theorem group_spec_e (m ep : Int) (A : Option Addr) (n c : Nat) (xs : List Int) (hn : n ≤ 4611686018427387904) (w : World) (hr : Rd w 1 A n (ints xs)) :
    Calls Try.prog 22 #[.agg #[.int .i64 m, .int .i64 ep, .slice A n c]] w fun e w' => e = .returned (.bool (gvB m ep xs)) ∧ Ext w w' :=
  (group_spec m ep A n c xs hn w hr).mono fun e w' ⟨h1, q, h2⟩ => ⟨h1, by rw [h2]; exact ((Ext.refl w).alloc _).drewN q⟩

set_option maxHeartbeats 1600000 in
theorem law (m ep : Int) (A : Option Addr) (n c : Nat) (xs : List Int) (hn : n ≤ 9223372036854775807) (w : World) (hr : Rd w 1 A n (ints xs)) :
    Calls Try.prog 6 #[.agg #[.int .i64 m, .int .i64 ep, .slice A n c]] w fun e w' => e = .returned (.bool true) ∧ Ext w w' := by
  have HR1 := Lib.hid (hr.alloc (.cells #[.int .i64 m, .int .i64 ep, .slice A n c] 26))
  have e0 : Ext w (w.alloc (.cells #[.int .i64 m, .int .i64 ep, .slice A n c] 26)) := (Ext.refl w).alloc _
  by_cases hbig : (1048576 : Int) < n
  case pos =>
    have hs := fun w' => sz_group m ep A n c hn 1048576 rfl w'
    simp only [if_pos hbig] at hs
    have HS := Lib.hid hs
    clear hs
    go_enter Try.func6, Try.ntmps6
    go_wp2_with fail
    refine (HS.out _).mono ?_
    rintro e w1 ⟨rfl, b1⟩
    obtain ⟨c1, f1⟩ := b1.cells
    have z1 := b1.size
    try simp only [World.size_alloc] at c1 f1 z1
    have y1_0 : w.heap.size < w1.heap.size := by omega
    have k1_0_0 : w1.cell? ⟨w.heap.size, 0, none⟩ = some (.int .i64 m) := (c1 _ _ (by omega)).trans (by go_simp)
    have g1_0_0 : w1.frozen? ⟨w.heap.size, 0, none⟩ = false := (f1 _ _ (by omega)).trans (by go_simp)
    have k1_0_1 : w1.cell? ⟨w.heap.size, 1, none⟩ = some (.int .i64 ep) := (c1 _ _ (by omega)).trans (by go_simp)
    have g1_0_1 : w1.frozen? ⟨w.heap.size, 1, none⟩ = false := (f1 _ _ (by omega)).trans (by go_simp)
    have k1_0_2 : w1.cell? ⟨w.heap.size, 2, none⟩ = some (.slice A n c) := (c1 _ _ (by omega)).trans (by go_simp)
    have g1_0_2 : w1.frozen? ⟨w.heap.size, 2, none⟩ = false := (f1 _ _ (by omega)).trans (by go_simp)
    clear c1 f1
    go_wp2_with fail
    go_ret
    refine ⟨rfl, ?_⟩
    repeat (first | with_reducible exact Ext.refl _ | with_reducible assumption | with_reducible refine Ext.alloc ?_ _ | with_reducible refine Ext.drew ?_ | with_reducible refine Ext.drewN ?_ _ | (with_reducible refine Ext.setCell ?_ ?hle _; case hle => (first | (with_reducible exact Nat.le_refl _) | omega | (dsimp only; omega) | (simp only [World.size_alloc]; omega))) | with_reducible refine Ext.trans ?_ (by with_reducible assumption))
  have hs := fun w' => sz_group m ep A n c hn 1048576 rfl w'
  simp only [if_neg hbig] at hs
  have HS := Lib.hid hs
  clear hs
  have hsm : n ≤ 1048576 := by omega
  go_enter Try.func6, Try.ntmps6
  go_wp2_with fail
  refine (HS.out _).mono ?_
  rintro e w1 ⟨rfl, b1⟩
  obtain ⟨c1, f1⟩ := b1.cells
  have z1 := b1.size
  try simp only [World.size_alloc] at c1 f1 z1
  have y1_0 : w.heap.size < w1.heap.size := by omega
  have k1_0_0 : w1.cell? ⟨w.heap.size, 0, none⟩ = some (.int .i64 m) := (c1 _ _ (by omega)).trans (by go_simp)
  have g1_0_0 : w1.frozen? ⟨w.heap.size, 0, none⟩ = false := (f1 _ _ (by omega)).trans (by go_simp)
  have k1_0_1 : w1.cell? ⟨w.heap.size, 1, none⟩ = some (.int .i64 ep) := (c1 _ _ (by omega)).trans (by go_simp)
  have g1_0_1 : w1.frozen? ⟨w.heap.size, 1, none⟩ = false := (f1 _ _ (by omega)).trans (by go_simp)
  have k1_0_2 : w1.cell? ⟨w.heap.size, 2, none⟩ = some (.slice A n c) := (c1 _ _ (by omega)).trans (by go_simp)
  have g1_0_2 : w1.frozen? ⟨w.heap.size, 2, none⟩ = false := (f1 _ _ (by omega)).trans (by go_simp)
  clear c1 f1
  go_wp2_with fail
  refine (to_group _ _ _ _ _ _ hsm _ (HR1.out.ext b1)).mono ?_
  rintro e w2 ⟨g, hg, rfl, ho, b2⟩
  obtain ⟨c2, f2⟩ := b2.cells
  have z2 := b2.size
  try simp only [World.size_alloc] at c2 f2 z2
  have y2_0 : w.heap.size < w2.heap.size := by omega
  have k2_0_0 : w2.cell? ⟨w.heap.size, 0, none⟩ = some (.int .i64 m) := (c2 _ _ (by omega)).trans (by go_simp)
  have g2_0_0 : w2.frozen? ⟨w.heap.size, 0, none⟩ = false := (f2 _ _ (by omega)).trans (by go_simp)
  have k2_0_1 : w2.cell? ⟨w.heap.size, 1, none⟩ = some (.int .i64 ep) := (c2 _ _ (by omega)).trans (by go_simp)
  have g2_0_1 : w2.frozen? ⟨w.heap.size, 1, none⟩ = false := (f2 _ _ (by omega)).trans (by go_simp)
  have k2_0_2 : w2.cell? ⟨w.heap.size, 2, none⟩ = some (.slice A n c) := (c2 _ _ (by omega)).trans (by go_simp)
  have g2_0_2 : w2.frozen? ⟨w.heap.size, 2, none⟩ = false := (f2 _ _ (by omega)).trans (by go_simp)
  clear c2 f2
  have HO2 := Lib.hid (Rd.of_own ho)
  clear ho hg
  go_wp2_with fail
  refine (group_spec_e _ _ _ _ _ _ (by omega) _ HO2.out).mono ?_
  rintro e w3 ⟨rfl, b3⟩
  obtain ⟨c3, f3⟩ := b3.cells
  have z3 := b3.size
  try simp only [World.size_alloc] at c3 f3 z3
  have y3_0 : w.heap.size < w3.heap.size := by omega
  have k3_0_0 : w3.cell? ⟨w.heap.size, 0, none⟩ = some (.int .i64 m) := (c3 _ _ (by omega)).trans (by go_simp)
  have g3_0_0 : w3.frozen? ⟨w.heap.size, 0, none⟩ = false := (f3 _ _ (by omega)).trans (by go_simp)
  have k3_0_1 : w3.cell? ⟨w.heap.size, 1, none⟩ = some (.int .i64 ep) := (c3 _ _ (by omega)).trans (by go_simp)
  have g3_0_1 : w3.frozen? ⟨w.heap.size, 1, none⟩ = false := (f3 _ _ (by omega)).trans (by go_simp)
  have k3_0_2 : w3.cell? ⟨w.heap.size, 2, none⟩ = some (.slice A n c) := (c3 _ _ (by omega)).trans (by go_simp)
  have g3_0_2 : w3.frozen? ⟨w.heap.size, 2, none⟩ = false := (f3 _ _ (by omega)).trans (by go_simp)
  clear c3 f3
  go_wp2_with fail
  refine (to_group _ _ _ _ _ _ hsm _ ((HR1.out.ext b1).ext (b2.trans b3))).mono ?_
  rintro e w4 ⟨g', hg, rfl, ho, b4⟩
  obtain ⟨c4, f4⟩ := b4.cells
  have z4 := b4.size
  try simp only [World.size_alloc] at c4 f4 z4
  have y4_0 : w.heap.size < w4.heap.size := by omega
  have k4_0_0 : w4.cell? ⟨w.heap.size, 0, none⟩ = some (.int .i64 m) := (c4 _ _ (by omega)).trans (by go_simp)
  have g4_0_0 : w4.frozen? ⟨w.heap.size, 0, none⟩ = false := (f4 _ _ (by omega)).trans (by go_simp)
  have k4_0_1 : w4.cell? ⟨w.heap.size, 1, none⟩ = some (.int .i64 ep) := (c4 _ _ (by omega)).trans (by go_simp)
  have g4_0_1 : w4.frozen? ⟨w.heap.size, 1, none⟩ = false := (f4 _ _ (by omega)).trans (by go_simp)
  have k4_0_2 : w4.cell? ⟨w.heap.size, 2, none⟩ = some (.slice A n c) := (c4 _ _ (by omega)).trans (by go_simp)
  have g4_0_2 : w4.frozen? ⟨w.heap.size, 2, none⟩ = false := (f4 _ _ (by omega)).trans (by go_simp)
  clear c4 f4
  have HO4 := Lib.hid ((Rd.of_own ho).alloc (.cells #[.int .i64 m, .int .i64 ep, .slice (some ⟨g', 0, none⟩) n n] 29))
  have e4 := (Ext.refl w4).alloc (.cells #[.int .i64 m, .int .i64 ep, .slice (some ⟨g', 0, none⟩) n n] 29)
  clear ho hg
  go_wp2_with fail
  refine (group_impl_e _ _ _ _ _ _ (by omega) _ HO4.out).mono ?_
  rintro e w5 ⟨rfl, b5⟩
  obtain ⟨c5, f5⟩ := b5.cells
  have z5 := b5.size
  try simp only [World.size_alloc] at c5 f5 z5
  have y5_0 : w.heap.size < w5.heap.size := by omega
  have k5_0_0 : w5.cell? ⟨w.heap.size, 0, none⟩ = some (.int .i64 m) := (c5 _ _ (by omega)).trans (by go_simp)
  have g5_0_0 : w5.frozen? ⟨w.heap.size, 0, none⟩ = false := (f5 _ _ (by omega)).trans (by go_simp)
  have k5_0_1 : w5.cell? ⟨w.heap.size, 1, none⟩ = some (.int .i64 ep) := (c5 _ _ (by omega)).trans (by go_simp)
  have g5_0_1 : w5.frozen? ⟨w.heap.size, 1, none⟩ = false := (f5 _ _ (by omega)).trans (by go_simp)
  have k5_0_2 : w5.cell? ⟨w.heap.size, 2, none⟩ = some (.slice A n c) := (c5 _ _ (by omega)).trans (by go_simp)
  have g5_0_2 : w5.frozen? ⟨w.heap.size, 2, none⟩ = false := (f5 _ _ (by omega)).trans (by go_simp)
  have y5_1 : w4.heap.size < w5.heap.size := by omega
  have k5_1_0 : w5.cell? ⟨w4.heap.size, 0, none⟩ = some (.int .i64 m) := (c5 _ _ (by omega)).trans (by go_simp)
  have g5_1_0 : w5.frozen? ⟨w4.heap.size, 0, none⟩ = false := (f5 _ _ (by omega)).trans (by go_simp)
  have k5_1_1 : w5.cell? ⟨w4.heap.size, 1, none⟩ = some (.int .i64 ep) := (c5 _ _ (by omega)).trans (by go_simp)
  have g5_1_1 : w5.frozen? ⟨w4.heap.size, 1, none⟩ = false := (f5 _ _ (by omega)).trans (by go_simp)
  have k5_1_2 : w5.cell? ⟨w4.heap.size, 2, none⟩ = some (.slice (some ⟨g', 0, none⟩) n n) := (c5 _ _ (by omega)).trans (by go_simp)
  have g5_1_2 : w5.frozen? ⟨w4.heap.size, 2, none⟩ = false := (f5 _ _ (by omega)).trans (by go_simp)
  clear c5 f5
  have HX := Lib.hid (HO4.out.ext b5)
  have HR5 := Lib.hid (((HR1.out.ext b1).ext (b2.trans b3)).ext (b4.trans (e4.trans b5)))
  go_wp2_with fail
  go_region_held3 (fun w' => w'.cell? ⟨w4.heap.size, 0, none⟩ = some (.int .i64 m) ∧ w'.cell? ⟨w4.heap.size, 1, none⟩ = some (.int .i64 ep) ∧ w'.cell? ⟨w4.heap.size, 2, none⟩ = some (.slice (some ⟨g', 0, none⟩) n n) ∧ w'.cell? ⟨w.heap.size, 0, none⟩ = some (.int .i64 m) ∧ w'.cell? ⟨w.heap.size, 1, none⟩ = some (.int .i64 ep) ∧ w'.cell? ⟨w.heap.size, 2, none⟩ = some (.slice A n c) ∧ Ext w5 w') ((refine ⟨?_, ?_, ?_, ?_, ?_, ?_, ?_⟩ <;> first | assumption | exact (Ext.refl _).drew | exact Ext.refl _)) (first | (go_at_call 23; refine (to_group _ _ _ _ _ _ hsm _ (HR5.out.ext (by first | assumption | exact (Ext.refl _).drew))).mono ?_; rintro e v6 ⟨g6, _, rfl, ho6, bv6⟩; have xv6 := Ext.trans (a := w5) (by first | assumption | exact (Ext.refl _).drew) bv6; have qv6_0 := (xv6.cell (w4.heap.size) 0 (by omega)).trans k5_1_0; have qv6_1 := (xv6.cell (w4.heap.size) 1 (by omega)).trans k5_1_1; have qv6_2 := (xv6.cell (w4.heap.size) 2 (by omega)).trans k5_1_2; have qv6_3 := (xv6.cell (w.heap.size) 0 (by omega)).trans k5_0_0; have qv6_4 := (xv6.cell (w.heap.size) 1 (by omega)).trans k5_0_1; have qv6_5 := (xv6.cell (w.heap.size) 2 (by omega)).trans k5_0_2) | (go_at_call 25; refine (eq_group _ _ _ _ _ _ _ _ hsm _ (HX.out.ext (by assumption)) (Rd.of_own ho6)).mono ?_; rintro e v7 ⟨rfl, bv7⟩; have xv7 := Ext.trans (a := w5) (by first | assumption | exact (Ext.refl _).drew) bv7; have qv7_0 := (xv7.cell (w4.heap.size) 0 (by omega)).trans k5_1_0; have qv7_1 := (xv7.cell (w4.heap.size) 1 (by omega)).trans k5_1_1; have qv7_2 := (xv7.cell (w4.heap.size) 2 (by omega)).trans k5_1_2; have qv7_3 := (xv7.cell (w.heap.size) 0 (by omega)).trans k5_0_0; have qv7_4 := (xv7.cell (w.heap.size) 1 (by omega)).trans k5_0_1; have qv7_5 := (xv7.cell (w.heap.size) 2 (by omega)).trans k5_0_2))
  go_wp2_with fail
  go_ret
  refine ⟨rfl, ?_⟩
  repeat (first | with_reducible exact Ext.refl _ | with_reducible assumption | with_reducible refine Ext.alloc ?_ _ | with_reducible refine Ext.drew ?_ | with_reducible refine Ext.drewN ?_ _ | (with_reducible refine Ext.setCell ?_ ?hle _; case hle => (first | (with_reducible exact Nat.le_refl _) | omega | (dsimp only; omega) | (simp only [World.size_alloc]; omega))) | with_reducible refine Ext.trans ?_ (by with_reducible assumption))

theorem walk : LawWalk 6 Try.f6 := by
  intro H enc W base args ds p hval hA
  rw [Try.params6] at hA hval
  obtain ⟨v0, vs0, d0, ds0, p0, q0, hargs, rfl, rfl, h0, r0⟩ := trodAll_cons hA
  obtain ⟨rfl, rfl, rfl⟩ := trodAll_nil r0
  obtain rfl : args = #[v0] := by cases args; simp_all
  obtain ⟨m, ep, A, n, c, xs, rfl, hn0, hr0⟩ := open_group (hval 0 _ v0 rfl rfl) h0
  exact law m ep A n c xs hn0 W hr0

set_option maxRecDepth 100000 in
theorem over : Rows.fnExactIsValidGroupRow.holds Try.pinned (OpenSpec.ofChange Rows.fnExactIsValidGroupSpec) :=
  OpenClaim.holds_of_wide 6 Try.f6 rfl rfl rfl rfl rfl rfl rfl ⟨rfl, rfl, rfl, rfl, rfl⟩ rfl rfl rfl rfl rfl (by kernel_rfl) Try.func6 (by kernel_rfl)
    (of_decide_eq_true (by kernel_rfl)) (by unfold Func.isWrapper; first | (rw [if_pos (by decide +kernel)]; kernel_rfl) | (rw [if_neg (by decide +kernel)]; exact ⟨rfl, rfl⟩))
    (fun os started H enc _ => lifted_of (s := Rows.fnExactIsValidGroupSpec) (conds := Rows.fnExactIsValidGroupRow.domain) os started H enc (by kernel_rfl) Try.func6
      (ChangeSpec.witness6 (enc := enc) (C := Try.checked) false ⟨#[], #[.agg #[.int .i64 0, .int .i64 0, .slice none 0 0]], []⟩ 8 (by kernel_rfl) (by kernel_rfl) (by kernel_rfl) (by kernel_rfl))
      (by kernel_rfl) rfl (by kernel_rfl) (fun ds h => by match ds, h with | [d], _ => rfl) walk)

theorem proved : Rows.FnExactIsValidGroupSaid := over
#print axioms proved
end Go.Proofs.Ytekelmhlpinimaa.fnExactIsValidGroup
