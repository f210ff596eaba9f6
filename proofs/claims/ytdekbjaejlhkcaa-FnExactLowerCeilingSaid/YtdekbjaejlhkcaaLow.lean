/-
  LowerCeiling of the program and of the reference.
-/
import Derived.Test.YtdekbjaejlhkcaaTake
namespace Go.Proofs.Ytdekbjaejlhkcaa
open Go.ChangeShapes Go.WideShapes Go.ChangeAt Go.RowKit
set_option linter.unusedVariables false

/-- What RateForPrice returns. -/
def rfp (p : Int) : Int := if p < 0 then 0 else max 1 (8 / (1 + p / 4))
theorem rfp_bd {p : Int} (h : 0 ≤ p) : 1 ≤ rfp p ∧ rfp p ≤ 8 := by
  have h4 : 8 / (1 + p / 4) ≤ 8 := Int.ediv_le_self _ (by omega)
  unfold rfp
  omega
/-- What LowerCeiling returns. -/
def lcv (r c k l s p : Int) : Value := if vcB r c k l s = true ∧ 0 ≤ p then ctl (min r (rfp p)) (rfp p) (min k (rfp p)) l s else ctl r c k l s

set_option maxHeartbeats 400000 in
theorem rate_impl' {p R : Int} (h : rfp p = R) (h0 : 0 ≤ p) (hp : p ≤ 9223372036854775807) (w : World) :
    Calls Try.prog 12 #[.int .i64 p] w fun e w' => e = .returned (.int .i64 R) ∧ Ext w w' := by
  rw [← h]
  have h3 : 0 ≤ 8 / (1 + p / 4) := Int.ediv_nonneg (by omega) (by omega)
  have h4 : 8 / (1 + p / 4) ≤ 8 := Int.ediv_le_self _ (by omega)
  by_cases g : 1 < 8 / (1 + p / 4)
  case pos =>
    rw [show rfp p = 8 / (1 + p / 4) by unfold rfp; omega]
    go_enter Try.func12, Try.ntmps12
    go_wp2
    go_ret
    exact ⟨rfl, Ext.refl _⟩
  rw [show rfp p = 1 by unfold rfp; omega]
  by_cases g2 : 8 / (1 + p / 4) = 1
  case pos =>
    go_enter Try.func12, Try.ntmps12
    go_wp2
    all_goals
      go_ret
      exact ⟨by first | rfl | rw [g2], Ext.refl _⟩
  go_enter Try.func12, Try.ntmps12
  go_wp2
  go_ret
  exact ⟨rfl, Ext.refl _⟩

set_option maxHeartbeats 400000 in
theorem rate_spec' {p R : Int} (h : rfp p = R) (h0 : 0 ≤ p) (hp : p ≤ 9223372036854775807) (w : World) :
    Calls Try.prog 11 #[.int .i64 p] w fun e w' => e = .returned (.int .i64 R) ∧ Ext w w' := by
  rw [← h]
  have h3 : 0 ≤ 8 / (1 + p / 4) := Int.ediv_nonneg (by omega) (by omega)
  have h4 : 8 / (1 + p / 4) ≤ 8 := Int.ediv_le_self _ (by omega)
  by_cases g : 1 < 8 / (1 + p / 4)
  case pos =>
    rw [show rfp p = 8 / (1 + p / 4) by unfold rfp; omega]
    go_enter Try.func11, Try.ntmps11
    go_wp2
    go_ret
    exact ⟨rfl, Ext.refl _⟩
  rw [show rfp p = 1 by unfold rfp; omega]
  by_cases g2 : 8 / (1 + p / 4) = 1
  case pos =>
    go_enter Try.func11, Try.ntmps11
    go_wp2
    all_goals
      go_ret
      exact ⟨by first | rfl | rw [g2], Ext.refl _⟩
  go_enter Try.func11, Try.ntmps11
  go_wp2
  go_ret
  exact ⟨rfl, Ext.refl _⟩

set_option maxHeartbeats 400000 in
theorem low_impl_a (r c k l s p : Int) (hv : vcB r c k l s = false) (w : World) :
    Calls Try.prog 24 #[ctl r c k l s, .int .i64 p] w fun e w' => e = .returned (ctl r c k l s) ∧ Ext w w' := by
  go_enter Try.func24, Try.ntmps24
  go_wp2_with fail
  refine (valid_impl _ _ _ _ _ _).mono ?_
  rintro e w1 ⟨rfl, b1⟩
  obtain ⟨c1, f1⟩ := b1.cells
  have z1 := b1.size
  try simp only [World.size_alloc] at c1 f1 z1
  have y1_0 : w.heap.size < w1.heap.size := by omega
  have k1_0_0 : w1.cell? ⟨w.heap.size, 0, none⟩ = some (.int .i64 r) := (c1 _ _ (by omega)).trans (by go_simp)
  have g1_0_0 : w1.frozen? ⟨w.heap.size, 0, none⟩ = false := (f1 _ _ (by omega)).trans (by go_simp)
  have k1_0_1 : w1.cell? ⟨w.heap.size, 1, none⟩ = some (.int .i64 c) := (c1 _ _ (by omega)).trans (by go_simp)
  have g1_0_1 : w1.frozen? ⟨w.heap.size, 1, none⟩ = false := (f1 _ _ (by omega)).trans (by go_simp)
  have k1_0_2 : w1.cell? ⟨w.heap.size, 2, none⟩ = some (.int .i64 k) := (c1 _ _ (by omega)).trans (by go_simp)
  have g1_0_2 : w1.frozen? ⟨w.heap.size, 2, none⟩ = false := (f1 _ _ (by omega)).trans (by go_simp)
  have k1_0_3 : w1.cell? ⟨w.heap.size, 3, none⟩ = some (.int .i64 l) := (c1 _ _ (by omega)).trans (by go_simp)
  have g1_0_3 : w1.frozen? ⟨w.heap.size, 3, none⟩ = false := (f1 _ _ (by omega)).trans (by go_simp)
  have k1_0_4 : w1.cell? ⟨w.heap.size, 4, none⟩ = some (.int .i64 s) := (c1 _ _ (by omega)).trans (by go_simp)
  have g1_0_4 : w1.frozen? ⟨w.heap.size, 4, none⟩ = false := (f1 _ _ (by omega)).trans (by go_simp)
  have y1_1 : w.heap.size + 1 < w1.heap.size := by omega
  have k1_1_0 : w1.cell? ⟨w.heap.size + 1, 0, none⟩ = some (.int .i64 0) := (c1 _ _ (by omega)).trans (by go_simp)
  have g1_1_0 : w1.frozen? ⟨w.heap.size + 1, 0, none⟩ = false := (f1 _ _ (by omega)).trans (by go_simp)
  have k1_1_1 : w1.cell? ⟨w.heap.size + 1, 1, none⟩ = some (.int .i64 0) := (c1 _ _ (by omega)).trans (by go_simp)
  have g1_1_1 : w1.frozen? ⟨w.heap.size + 1, 1, none⟩ = false := (f1 _ _ (by omega)).trans (by go_simp)
  have k1_1_2 : w1.cell? ⟨w.heap.size + 1, 2, none⟩ = some (.int .i64 0) := (c1 _ _ (by omega)).trans (by go_simp)
  have g1_1_2 : w1.frozen? ⟨w.heap.size + 1, 2, none⟩ = false := (f1 _ _ (by omega)).trans (by go_simp)
  have k1_1_3 : w1.cell? ⟨w.heap.size + 1, 3, none⟩ = some (.int .i64 0) := (c1 _ _ (by omega)).trans (by go_simp)
  have g1_1_3 : w1.frozen? ⟨w.heap.size + 1, 3, none⟩ = false := (f1 _ _ (by omega)).trans (by go_simp)
  have k1_1_4 : w1.cell? ⟨w.heap.size + 1, 4, none⟩ = some (.int .i64 0) := (c1 _ _ (by omega)).trans (by go_simp)
  have g1_1_4 : w1.frozen? ⟨w.heap.size + 1, 4, none⟩ = false := (f1 _ _ (by omega)).trans (by go_simp)
  clear c1 f1
  go_wp2
  refine bodyPost_ret (v := ctl r c k l s) (by simp [results, Try.results24, go_sem, *]) rfl ⟨rfl, ?_⟩
  repeat (first | with_reducible exact Ext.refl _ | with_reducible assumption | with_reducible refine Ext.alloc ?_ _ | with_reducible refine Ext.drew ?_ | with_reducible refine Ext.drewN ?_ _ | (with_reducible refine Ext.setCell ?_ ?hle _; case hle => (first | (with_reducible exact Nat.le_refl _) | omega | (dsimp only; omega) | (simp only [World.size_alloc]; omega))) | with_reducible refine Ext.trans ?_ (by with_reducible assumption))

set_option maxHeartbeats 400000 in
theorem low_impl_b (r c k l s p : Int) (hv : vcB r c k l s = true) (h : p < 0) (w : World) :
    Calls Try.prog 24 #[ctl r c k l s, .int .i64 p] w fun e w' => e = .returned (ctl r c k l s) ∧ Ext w w' := by
  go_enter Try.func24, Try.ntmps24
  go_wp2_with fail
  refine (valid_impl _ _ _ _ _ _).mono ?_
  rintro e w1 ⟨rfl, b1⟩
  obtain ⟨c1, f1⟩ := b1.cells
  have z1 := b1.size
  try simp only [World.size_alloc] at c1 f1 z1
  have y1_0 : w.heap.size < w1.heap.size := by omega
  have k1_0_0 : w1.cell? ⟨w.heap.size, 0, none⟩ = some (.int .i64 r) := (c1 _ _ (by omega)).trans (by go_simp)
  have g1_0_0 : w1.frozen? ⟨w.heap.size, 0, none⟩ = false := (f1 _ _ (by omega)).trans (by go_simp)
  have k1_0_1 : w1.cell? ⟨w.heap.size, 1, none⟩ = some (.int .i64 c) := (c1 _ _ (by omega)).trans (by go_simp)
  have g1_0_1 : w1.frozen? ⟨w.heap.size, 1, none⟩ = false := (f1 _ _ (by omega)).trans (by go_simp)
  have k1_0_2 : w1.cell? ⟨w.heap.size, 2, none⟩ = some (.int .i64 k) := (c1 _ _ (by omega)).trans (by go_simp)
  have g1_0_2 : w1.frozen? ⟨w.heap.size, 2, none⟩ = false := (f1 _ _ (by omega)).trans (by go_simp)
  have k1_0_3 : w1.cell? ⟨w.heap.size, 3, none⟩ = some (.int .i64 l) := (c1 _ _ (by omega)).trans (by go_simp)
  have g1_0_3 : w1.frozen? ⟨w.heap.size, 3, none⟩ = false := (f1 _ _ (by omega)).trans (by go_simp)
  have k1_0_4 : w1.cell? ⟨w.heap.size, 4, none⟩ = some (.int .i64 s) := (c1 _ _ (by omega)).trans (by go_simp)
  have g1_0_4 : w1.frozen? ⟨w.heap.size, 4, none⟩ = false := (f1 _ _ (by omega)).trans (by go_simp)
  have y1_1 : w.heap.size + 1 < w1.heap.size := by omega
  have k1_1_0 : w1.cell? ⟨w.heap.size + 1, 0, none⟩ = some (.int .i64 0) := (c1 _ _ (by omega)).trans (by go_simp)
  have g1_1_0 : w1.frozen? ⟨w.heap.size + 1, 0, none⟩ = false := (f1 _ _ (by omega)).trans (by go_simp)
  have k1_1_1 : w1.cell? ⟨w.heap.size + 1, 1, none⟩ = some (.int .i64 0) := (c1 _ _ (by omega)).trans (by go_simp)
  have g1_1_1 : w1.frozen? ⟨w.heap.size + 1, 1, none⟩ = false := (f1 _ _ (by omega)).trans (by go_simp)
  have k1_1_2 : w1.cell? ⟨w.heap.size + 1, 2, none⟩ = some (.int .i64 0) := (c1 _ _ (by omega)).trans (by go_simp)
  have g1_1_2 : w1.frozen? ⟨w.heap.size + 1, 2, none⟩ = false := (f1 _ _ (by omega)).trans (by go_simp)
  have k1_1_3 : w1.cell? ⟨w.heap.size + 1, 3, none⟩ = some (.int .i64 0) := (c1 _ _ (by omega)).trans (by go_simp)
  have g1_1_3 : w1.frozen? ⟨w.heap.size + 1, 3, none⟩ = false := (f1 _ _ (by omega)).trans (by go_simp)
  have k1_1_4 : w1.cell? ⟨w.heap.size + 1, 4, none⟩ = some (.int .i64 0) := (c1 _ _ (by omega)).trans (by go_simp)
  have g1_1_4 : w1.frozen? ⟨w.heap.size + 1, 4, none⟩ = false := (f1 _ _ (by omega)).trans (by go_simp)
  clear c1 f1
  go_wp2
  refine bodyPost_ret (v := ctl r c k l s) (by simp [results, Try.results24, go_sem, *]) rfl ⟨rfl, ?_⟩
  repeat (first | with_reducible exact Ext.refl _ | with_reducible assumption | with_reducible refine Ext.alloc ?_ _ | with_reducible refine Ext.drew ?_ | with_reducible refine Ext.drewN ?_ _ | (with_reducible refine Ext.setCell ?_ ?hle _; case hle => (first | (with_reducible exact Nat.le_refl _) | omega | (dsimp only; omega) | (simp only [World.size_alloc]; omega))) | with_reducible refine Ext.trans ?_ (by with_reducible assumption))

set_option maxHeartbeats 400000 in
theorem low_impl_c (r c k l s p R : Int) (hv : vcB r c k l s = true) (h0 : 0 ≤ p) (hp : p ≤ 9223372036854775807) (H : Hid (rfp p = R)) (hR1 : 1 ≤ R) (hR8 : R ≤ 8) (g1 : r < R) (g2 : k < R) (w : World) :
    Calls Try.prog 24 #[ctl r c k l s, .int .i64 p] w fun e w' => e = .returned (ctl r R k l s) ∧ Ext w w' := by
  go_enter Try.func24, Try.ntmps24
  go_wp2_with fail
  refine (valid_impl _ _ _ _ _ _).mono ?_
  rintro e w1 ⟨rfl, b1⟩
  obtain ⟨c1, f1⟩ := b1.cells
  have z1 := b1.size
  try simp only [World.size_alloc] at c1 f1 z1
  have y1_0 : w.heap.size < w1.heap.size := by omega
  have k1_0_0 : w1.cell? ⟨w.heap.size, 0, none⟩ = some (.int .i64 r) := (c1 _ _ (by omega)).trans (by go_simp)
  have g1_0_0 : w1.frozen? ⟨w.heap.size, 0, none⟩ = false := (f1 _ _ (by omega)).trans (by go_simp)
  have k1_0_1 : w1.cell? ⟨w.heap.size, 1, none⟩ = some (.int .i64 c) := (c1 _ _ (by omega)).trans (by go_simp)
  have g1_0_1 : w1.frozen? ⟨w.heap.size, 1, none⟩ = false := (f1 _ _ (by omega)).trans (by go_simp)
  have k1_0_2 : w1.cell? ⟨w.heap.size, 2, none⟩ = some (.int .i64 k) := (c1 _ _ (by omega)).trans (by go_simp)
  have g1_0_2 : w1.frozen? ⟨w.heap.size, 2, none⟩ = false := (f1 _ _ (by omega)).trans (by go_simp)
  have k1_0_3 : w1.cell? ⟨w.heap.size, 3, none⟩ = some (.int .i64 l) := (c1 _ _ (by omega)).trans (by go_simp)
  have g1_0_3 : w1.frozen? ⟨w.heap.size, 3, none⟩ = false := (f1 _ _ (by omega)).trans (by go_simp)
  have k1_0_4 : w1.cell? ⟨w.heap.size, 4, none⟩ = some (.int .i64 s) := (c1 _ _ (by omega)).trans (by go_simp)
  have g1_0_4 : w1.frozen? ⟨w.heap.size, 4, none⟩ = false := (f1 _ _ (by omega)).trans (by go_simp)
  have y1_1 : w.heap.size + 1 < w1.heap.size := by omega
  have k1_1_0 : w1.cell? ⟨w.heap.size + 1, 0, none⟩ = some (.int .i64 0) := (c1 _ _ (by omega)).trans (by go_simp)
  have g1_1_0 : w1.frozen? ⟨w.heap.size + 1, 0, none⟩ = false := (f1 _ _ (by omega)).trans (by go_simp)
  have k1_1_1 : w1.cell? ⟨w.heap.size + 1, 1, none⟩ = some (.int .i64 0) := (c1 _ _ (by omega)).trans (by go_simp)
  have g1_1_1 : w1.frozen? ⟨w.heap.size + 1, 1, none⟩ = false := (f1 _ _ (by omega)).trans (by go_simp)
  have k1_1_2 : w1.cell? ⟨w.heap.size + 1, 2, none⟩ = some (.int .i64 0) := (c1 _ _ (by omega)).trans (by go_simp)
  have g1_1_2 : w1.frozen? ⟨w.heap.size + 1, 2, none⟩ = false := (f1 _ _ (by omega)).trans (by go_simp)
  have k1_1_3 : w1.cell? ⟨w.heap.size + 1, 3, none⟩ = some (.int .i64 0) := (c1 _ _ (by omega)).trans (by go_simp)
  have g1_1_3 : w1.frozen? ⟨w.heap.size + 1, 3, none⟩ = false := (f1 _ _ (by omega)).trans (by go_simp)
  have k1_1_4 : w1.cell? ⟨w.heap.size + 1, 4, none⟩ = some (.int .i64 0) := (c1 _ _ (by omega)).trans (by go_simp)
  have g1_1_4 : w1.frozen? ⟨w.heap.size + 1, 4, none⟩ = false := (f1 _ _ (by omega)).trans (by go_simp)
  clear c1 f1
  go_wp2_with fail
  refine (rate_impl' H.out h0 hp _).mono ?_
  rintro e w2 ⟨rfl, b2⟩
  obtain ⟨c2, f2⟩ := b2.cells
  have z2 := b2.size
  try simp only [World.size_alloc] at c2 f2 z2
  have y2_0 : w.heap.size < w2.heap.size := by omega
  have k2_0_0 : w2.cell? ⟨w.heap.size, 0, none⟩ = some (.int .i64 r) := (c2 _ _ (by omega)).trans (by go_simp)
  have g2_0_0 : w2.frozen? ⟨w.heap.size, 0, none⟩ = false := (f2 _ _ (by omega)).trans (by go_simp)
  have k2_0_1 : w2.cell? ⟨w.heap.size, 1, none⟩ = some (.int .i64 c) := (c2 _ _ (by omega)).trans (by go_simp)
  have g2_0_1 : w2.frozen? ⟨w.heap.size, 1, none⟩ = false := (f2 _ _ (by omega)).trans (by go_simp)
  have k2_0_2 : w2.cell? ⟨w.heap.size, 2, none⟩ = some (.int .i64 k) := (c2 _ _ (by omega)).trans (by go_simp)
  have g2_0_2 : w2.frozen? ⟨w.heap.size, 2, none⟩ = false := (f2 _ _ (by omega)).trans (by go_simp)
  have k2_0_3 : w2.cell? ⟨w.heap.size, 3, none⟩ = some (.int .i64 l) := (c2 _ _ (by omega)).trans (by go_simp)
  have g2_0_3 : w2.frozen? ⟨w.heap.size, 3, none⟩ = false := (f2 _ _ (by omega)).trans (by go_simp)
  have k2_0_4 : w2.cell? ⟨w.heap.size, 4, none⟩ = some (.int .i64 s) := (c2 _ _ (by omega)).trans (by go_simp)
  have g2_0_4 : w2.frozen? ⟨w.heap.size, 4, none⟩ = false := (f2 _ _ (by omega)).trans (by go_simp)
  have y2_1 : w.heap.size + 1 < w2.heap.size := by omega
  have k2_1_0 : w2.cell? ⟨w.heap.size + 1, 0, none⟩ = some (.int .i64 0) := (c2 _ _ (by omega)).trans (by go_simp)
  have g2_1_0 : w2.frozen? ⟨w.heap.size + 1, 0, none⟩ = false := (f2 _ _ (by omega)).trans (by go_simp)
  have k2_1_1 : w2.cell? ⟨w.heap.size + 1, 1, none⟩ = some (.int .i64 0) := (c2 _ _ (by omega)).trans (by go_simp)
  have g2_1_1 : w2.frozen? ⟨w.heap.size + 1, 1, none⟩ = false := (f2 _ _ (by omega)).trans (by go_simp)
  have k2_1_2 : w2.cell? ⟨w.heap.size + 1, 2, none⟩ = some (.int .i64 0) := (c2 _ _ (by omega)).trans (by go_simp)
  have g2_1_2 : w2.frozen? ⟨w.heap.size + 1, 2, none⟩ = false := (f2 _ _ (by omega)).trans (by go_simp)
  have k2_1_3 : w2.cell? ⟨w.heap.size + 1, 3, none⟩ = some (.int .i64 0) := (c2 _ _ (by omega)).trans (by go_simp)
  have g2_1_3 : w2.frozen? ⟨w.heap.size + 1, 3, none⟩ = false := (f2 _ _ (by omega)).trans (by go_simp)
  have k2_1_4 : w2.cell? ⟨w.heap.size + 1, 4, none⟩ = some (.int .i64 0) := (c2 _ _ (by omega)).trans (by go_simp)
  have g2_1_4 : w2.frozen? ⟨w.heap.size + 1, 4, none⟩ = false := (f2 _ _ (by omega)).trans (by go_simp)
  clear c2 f2
  go_wp2
  refine bodyPost_ret (v := ctl r R k l s) (by simp [results, Try.results24, go_sem, *]) rfl ⟨rfl, ?_⟩
  repeat (first | with_reducible exact Ext.refl _ | with_reducible assumption | with_reducible refine Ext.alloc ?_ _ | with_reducible refine Ext.drew ?_ | with_reducible refine Ext.drewN ?_ _ | (with_reducible refine Ext.setCell ?_ ?hle _; case hle => (first | (with_reducible exact Nat.le_refl _) | omega | (dsimp only; omega) | (simp only [World.size_alloc]; omega))) | with_reducible refine Ext.trans ?_ (by with_reducible assumption))

set_option maxHeartbeats 400000 in
theorem low_impl_d (c k l s p R : Int) (hv : vcB R c k l s = true) (h0 : 0 ≤ p) (hp : p ≤ 9223372036854775807) (H : Hid (rfp p = R)) (hR1 : 1 ≤ R) (hR8 : R ≤ 8) (g2 : k < R) (w : World) :
    Calls Try.prog 24 #[ctl R c k l s, .int .i64 p] w fun e w' => e = .returned (ctl R R k l s) ∧ Ext w w' := by
  go_enter Try.func24, Try.ntmps24
  go_wp2_with fail
  refine (valid_impl _ _ _ _ _ _).mono ?_
  rintro e w1 ⟨rfl, b1⟩
  obtain ⟨c1, f1⟩ := b1.cells
  have z1 := b1.size
  try simp only [World.size_alloc] at c1 f1 z1
  have y1_0 : w.heap.size < w1.heap.size := by omega
  have k1_0_0 : w1.cell? ⟨w.heap.size, 0, none⟩ = some (.int .i64 R) := (c1 _ _ (by omega)).trans (by go_simp)
  have g1_0_0 : w1.frozen? ⟨w.heap.size, 0, none⟩ = false := (f1 _ _ (by omega)).trans (by go_simp)
  have k1_0_1 : w1.cell? ⟨w.heap.size, 1, none⟩ = some (.int .i64 c) := (c1 _ _ (by omega)).trans (by go_simp)
  have g1_0_1 : w1.frozen? ⟨w.heap.size, 1, none⟩ = false := (f1 _ _ (by omega)).trans (by go_simp)
  have k1_0_2 : w1.cell? ⟨w.heap.size, 2, none⟩ = some (.int .i64 k) := (c1 _ _ (by omega)).trans (by go_simp)
  have g1_0_2 : w1.frozen? ⟨w.heap.size, 2, none⟩ = false := (f1 _ _ (by omega)).trans (by go_simp)
  have k1_0_3 : w1.cell? ⟨w.heap.size, 3, none⟩ = some (.int .i64 l) := (c1 _ _ (by omega)).trans (by go_simp)
  have g1_0_3 : w1.frozen? ⟨w.heap.size, 3, none⟩ = false := (f1 _ _ (by omega)).trans (by go_simp)
  have k1_0_4 : w1.cell? ⟨w.heap.size, 4, none⟩ = some (.int .i64 s) := (c1 _ _ (by omega)).trans (by go_simp)
  have g1_0_4 : w1.frozen? ⟨w.heap.size, 4, none⟩ = false := (f1 _ _ (by omega)).trans (by go_simp)
  have y1_1 : w.heap.size + 1 < w1.heap.size := by omega
  have k1_1_0 : w1.cell? ⟨w.heap.size + 1, 0, none⟩ = some (.int .i64 0) := (c1 _ _ (by omega)).trans (by go_simp)
  have g1_1_0 : w1.frozen? ⟨w.heap.size + 1, 0, none⟩ = false := (f1 _ _ (by omega)).trans (by go_simp)
  have k1_1_1 : w1.cell? ⟨w.heap.size + 1, 1, none⟩ = some (.int .i64 0) := (c1 _ _ (by omega)).trans (by go_simp)
  have g1_1_1 : w1.frozen? ⟨w.heap.size + 1, 1, none⟩ = false := (f1 _ _ (by omega)).trans (by go_simp)
  have k1_1_2 : w1.cell? ⟨w.heap.size + 1, 2, none⟩ = some (.int .i64 0) := (c1 _ _ (by omega)).trans (by go_simp)
  have g1_1_2 : w1.frozen? ⟨w.heap.size + 1, 2, none⟩ = false := (f1 _ _ (by omega)).trans (by go_simp)
  have k1_1_3 : w1.cell? ⟨w.heap.size + 1, 3, none⟩ = some (.int .i64 0) := (c1 _ _ (by omega)).trans (by go_simp)
  have g1_1_3 : w1.frozen? ⟨w.heap.size + 1, 3, none⟩ = false := (f1 _ _ (by omega)).trans (by go_simp)
  have k1_1_4 : w1.cell? ⟨w.heap.size + 1, 4, none⟩ = some (.int .i64 0) := (c1 _ _ (by omega)).trans (by go_simp)
  have g1_1_4 : w1.frozen? ⟨w.heap.size + 1, 4, none⟩ = false := (f1 _ _ (by omega)).trans (by go_simp)
  clear c1 f1
  go_wp2_with fail
  refine (rate_impl' H.out h0 hp _).mono ?_
  rintro e w2 ⟨rfl, b2⟩
  obtain ⟨c2, f2⟩ := b2.cells
  have z2 := b2.size
  try simp only [World.size_alloc] at c2 f2 z2
  have y2_0 : w.heap.size < w2.heap.size := by omega
  have k2_0_0 : w2.cell? ⟨w.heap.size, 0, none⟩ = some (.int .i64 R) := (c2 _ _ (by omega)).trans (by go_simp)
  have g2_0_0 : w2.frozen? ⟨w.heap.size, 0, none⟩ = false := (f2 _ _ (by omega)).trans (by go_simp)
  have k2_0_1 : w2.cell? ⟨w.heap.size, 1, none⟩ = some (.int .i64 c) := (c2 _ _ (by omega)).trans (by go_simp)
  have g2_0_1 : w2.frozen? ⟨w.heap.size, 1, none⟩ = false := (f2 _ _ (by omega)).trans (by go_simp)
  have k2_0_2 : w2.cell? ⟨w.heap.size, 2, none⟩ = some (.int .i64 k) := (c2 _ _ (by omega)).trans (by go_simp)
  have g2_0_2 : w2.frozen? ⟨w.heap.size, 2, none⟩ = false := (f2 _ _ (by omega)).trans (by go_simp)
  have k2_0_3 : w2.cell? ⟨w.heap.size, 3, none⟩ = some (.int .i64 l) := (c2 _ _ (by omega)).trans (by go_simp)
  have g2_0_3 : w2.frozen? ⟨w.heap.size, 3, none⟩ = false := (f2 _ _ (by omega)).trans (by go_simp)
  have k2_0_4 : w2.cell? ⟨w.heap.size, 4, none⟩ = some (.int .i64 s) := (c2 _ _ (by omega)).trans (by go_simp)
  have g2_0_4 : w2.frozen? ⟨w.heap.size, 4, none⟩ = false := (f2 _ _ (by omega)).trans (by go_simp)
  have y2_1 : w.heap.size + 1 < w2.heap.size := by omega
  have k2_1_0 : w2.cell? ⟨w.heap.size + 1, 0, none⟩ = some (.int .i64 0) := (c2 _ _ (by omega)).trans (by go_simp)
  have g2_1_0 : w2.frozen? ⟨w.heap.size + 1, 0, none⟩ = false := (f2 _ _ (by omega)).trans (by go_simp)
  have k2_1_1 : w2.cell? ⟨w.heap.size + 1, 1, none⟩ = some (.int .i64 0) := (c2 _ _ (by omega)).trans (by go_simp)
  have g2_1_1 : w2.frozen? ⟨w.heap.size + 1, 1, none⟩ = false := (f2 _ _ (by omega)).trans (by go_simp)
  have k2_1_2 : w2.cell? ⟨w.heap.size + 1, 2, none⟩ = some (.int .i64 0) := (c2 _ _ (by omega)).trans (by go_simp)
  have g2_1_2 : w2.frozen? ⟨w.heap.size + 1, 2, none⟩ = false := (f2 _ _ (by omega)).trans (by go_simp)
  have k2_1_3 : w2.cell? ⟨w.heap.size + 1, 3, none⟩ = some (.int .i64 0) := (c2 _ _ (by omega)).trans (by go_simp)
  have g2_1_3 : w2.frozen? ⟨w.heap.size + 1, 3, none⟩ = false := (f2 _ _ (by omega)).trans (by go_simp)
  have k2_1_4 : w2.cell? ⟨w.heap.size + 1, 4, none⟩ = some (.int .i64 0) := (c2 _ _ (by omega)).trans (by go_simp)
  have g2_1_4 : w2.frozen? ⟨w.heap.size + 1, 4, none⟩ = false := (f2 _ _ (by omega)).trans (by go_simp)
  clear c2 f2
  go_wp2
  refine bodyPost_ret (v := ctl R R k l s) (by simp [results, Try.results24, go_sem, *]) rfl ⟨rfl, ?_⟩
  repeat (first | with_reducible exact Ext.refl _ | with_reducible assumption | with_reducible refine Ext.alloc ?_ _ | with_reducible refine Ext.drew ?_ | with_reducible refine Ext.drewN ?_ _ | (with_reducible refine Ext.setCell ?_ ?hle _; case hle => (first | (with_reducible exact Nat.le_refl _) | omega | (dsimp only; omega) | (simp only [World.size_alloc]; omega))) | with_reducible refine Ext.trans ?_ (by with_reducible assumption))

set_option maxHeartbeats 400000 in
theorem low_impl_e (c l s p R : Int) (hv : vcB R c R l s = true) (h0 : 0 ≤ p) (hp : p ≤ 9223372036854775807) (H : Hid (rfp p = R)) (hR1 : 1 ≤ R) (hR8 : R ≤ 8) (w : World) :
    Calls Try.prog 24 #[ctl R c R l s, .int .i64 p] w fun e w' => e = .returned (ctl R R R l s) ∧ Ext w w' := by
  go_enter Try.func24, Try.ntmps24
  go_wp2_with fail
  refine (valid_impl _ _ _ _ _ _).mono ?_
  rintro e w1 ⟨rfl, b1⟩
  obtain ⟨c1, f1⟩ := b1.cells
  have z1 := b1.size
  try simp only [World.size_alloc] at c1 f1 z1
  have y1_0 : w.heap.size < w1.heap.size := by omega
  have k1_0_0 : w1.cell? ⟨w.heap.size, 0, none⟩ = some (.int .i64 R) := (c1 _ _ (by omega)).trans (by go_simp)
  have g1_0_0 : w1.frozen? ⟨w.heap.size, 0, none⟩ = false := (f1 _ _ (by omega)).trans (by go_simp)
  have k1_0_1 : w1.cell? ⟨w.heap.size, 1, none⟩ = some (.int .i64 c) := (c1 _ _ (by omega)).trans (by go_simp)
  have g1_0_1 : w1.frozen? ⟨w.heap.size, 1, none⟩ = false := (f1 _ _ (by omega)).trans (by go_simp)
  have k1_0_2 : w1.cell? ⟨w.heap.size, 2, none⟩ = some (.int .i64 R) := (c1 _ _ (by omega)).trans (by go_simp)
  have g1_0_2 : w1.frozen? ⟨w.heap.size, 2, none⟩ = false := (f1 _ _ (by omega)).trans (by go_simp)
  have k1_0_3 : w1.cell? ⟨w.heap.size, 3, none⟩ = some (.int .i64 l) := (c1 _ _ (by omega)).trans (by go_simp)
  have g1_0_3 : w1.frozen? ⟨w.heap.size, 3, none⟩ = false := (f1 _ _ (by omega)).trans (by go_simp)
  have k1_0_4 : w1.cell? ⟨w.heap.size, 4, none⟩ = some (.int .i64 s) := (c1 _ _ (by omega)).trans (by go_simp)
  have g1_0_4 : w1.frozen? ⟨w.heap.size, 4, none⟩ = false := (f1 _ _ (by omega)).trans (by go_simp)
  have y1_1 : w.heap.size + 1 < w1.heap.size := by omega
  have k1_1_0 : w1.cell? ⟨w.heap.size + 1, 0, none⟩ = some (.int .i64 0) := (c1 _ _ (by omega)).trans (by go_simp)
  have g1_1_0 : w1.frozen? ⟨w.heap.size + 1, 0, none⟩ = false := (f1 _ _ (by omega)).trans (by go_simp)
  have k1_1_1 : w1.cell? ⟨w.heap.size + 1, 1, none⟩ = some (.int .i64 0) := (c1 _ _ (by omega)).trans (by go_simp)
  have g1_1_1 : w1.frozen? ⟨w.heap.size + 1, 1, none⟩ = false := (f1 _ _ (by omega)).trans (by go_simp)
  have k1_1_2 : w1.cell? ⟨w.heap.size + 1, 2, none⟩ = some (.int .i64 0) := (c1 _ _ (by omega)).trans (by go_simp)
  have g1_1_2 : w1.frozen? ⟨w.heap.size + 1, 2, none⟩ = false := (f1 _ _ (by omega)).trans (by go_simp)
  have k1_1_3 : w1.cell? ⟨w.heap.size + 1, 3, none⟩ = some (.int .i64 0) := (c1 _ _ (by omega)).trans (by go_simp)
  have g1_1_3 : w1.frozen? ⟨w.heap.size + 1, 3, none⟩ = false := (f1 _ _ (by omega)).trans (by go_simp)
  have k1_1_4 : w1.cell? ⟨w.heap.size + 1, 4, none⟩ = some (.int .i64 0) := (c1 _ _ (by omega)).trans (by go_simp)
  have g1_1_4 : w1.frozen? ⟨w.heap.size + 1, 4, none⟩ = false := (f1 _ _ (by omega)).trans (by go_simp)
  clear c1 f1
  go_wp2_with fail
  refine (rate_impl' H.out h0 hp _).mono ?_
  rintro e w2 ⟨rfl, b2⟩
  obtain ⟨c2, f2⟩ := b2.cells
  have z2 := b2.size
  try simp only [World.size_alloc] at c2 f2 z2
  have y2_0 : w.heap.size < w2.heap.size := by omega
  have k2_0_0 : w2.cell? ⟨w.heap.size, 0, none⟩ = some (.int .i64 R) := (c2 _ _ (by omega)).trans (by go_simp)
  have g2_0_0 : w2.frozen? ⟨w.heap.size, 0, none⟩ = false := (f2 _ _ (by omega)).trans (by go_simp)
  have k2_0_1 : w2.cell? ⟨w.heap.size, 1, none⟩ = some (.int .i64 c) := (c2 _ _ (by omega)).trans (by go_simp)
  have g2_0_1 : w2.frozen? ⟨w.heap.size, 1, none⟩ = false := (f2 _ _ (by omega)).trans (by go_simp)
  have k2_0_2 : w2.cell? ⟨w.heap.size, 2, none⟩ = some (.int .i64 R) := (c2 _ _ (by omega)).trans (by go_simp)
  have g2_0_2 : w2.frozen? ⟨w.heap.size, 2, none⟩ = false := (f2 _ _ (by omega)).trans (by go_simp)
  have k2_0_3 : w2.cell? ⟨w.heap.size, 3, none⟩ = some (.int .i64 l) := (c2 _ _ (by omega)).trans (by go_simp)
  have g2_0_3 : w2.frozen? ⟨w.heap.size, 3, none⟩ = false := (f2 _ _ (by omega)).trans (by go_simp)
  have k2_0_4 : w2.cell? ⟨w.heap.size, 4, none⟩ = some (.int .i64 s) := (c2 _ _ (by omega)).trans (by go_simp)
  have g2_0_4 : w2.frozen? ⟨w.heap.size, 4, none⟩ = false := (f2 _ _ (by omega)).trans (by go_simp)
  have y2_1 : w.heap.size + 1 < w2.heap.size := by omega
  have k2_1_0 : w2.cell? ⟨w.heap.size + 1, 0, none⟩ = some (.int .i64 0) := (c2 _ _ (by omega)).trans (by go_simp)
  have g2_1_0 : w2.frozen? ⟨w.heap.size + 1, 0, none⟩ = false := (f2 _ _ (by omega)).trans (by go_simp)
  have k2_1_1 : w2.cell? ⟨w.heap.size + 1, 1, none⟩ = some (.int .i64 0) := (c2 _ _ (by omega)).trans (by go_simp)
  have g2_1_1 : w2.frozen? ⟨w.heap.size + 1, 1, none⟩ = false := (f2 _ _ (by omega)).trans (by go_simp)
  have k2_1_2 : w2.cell? ⟨w.heap.size + 1, 2, none⟩ = some (.int .i64 0) := (c2 _ _ (by omega)).trans (by go_simp)
  have g2_1_2 : w2.frozen? ⟨w.heap.size + 1, 2, none⟩ = false := (f2 _ _ (by omega)).trans (by go_simp)
  have k2_1_3 : w2.cell? ⟨w.heap.size + 1, 3, none⟩ = some (.int .i64 0) := (c2 _ _ (by omega)).trans (by go_simp)
  have g2_1_3 : w2.frozen? ⟨w.heap.size + 1, 3, none⟩ = false := (f2 _ _ (by omega)).trans (by go_simp)
  have k2_1_4 : w2.cell? ⟨w.heap.size + 1, 4, none⟩ = some (.int .i64 0) := (c2 _ _ (by omega)).trans (by go_simp)
  have g2_1_4 : w2.frozen? ⟨w.heap.size + 1, 4, none⟩ = false := (f2 _ _ (by omega)).trans (by go_simp)
  clear c2 f2
  go_wp2
  refine bodyPost_ret (v := ctl R R R l s) (by simp [results, Try.results24, go_sem, *]) rfl ⟨rfl, ?_⟩
  repeat (first | with_reducible exact Ext.refl _ | with_reducible assumption | with_reducible refine Ext.alloc ?_ _ | with_reducible refine Ext.drew ?_ | with_reducible refine Ext.drewN ?_ _ | (with_reducible refine Ext.setCell ?_ ?hle _; case hle => (first | (with_reducible exact Nat.le_refl _) | omega | (dsimp only; omega) | (simp only [World.size_alloc]; omega))) | with_reducible refine Ext.trans ?_ (by with_reducible assumption))

set_option maxHeartbeats 400000 in
theorem low_impl_f (r c k l s p R : Int) (hv : vcB r c k l s = true) (h0 : 0 ≤ p) (hp : p ≤ 9223372036854775807) (H : Hid (rfp p = R)) (hR1 : 1 ≤ R) (hR8 : R ≤ 8) (g1 : R < r) (g2 : k < R) (w : World) :
    Calls Try.prog 24 #[ctl r c k l s, .int .i64 p] w fun e w' => e = .returned (ctl R R k l s) ∧ Ext w w' := by
  go_enter Try.func24, Try.ntmps24
  go_wp2_with fail
  refine (valid_impl _ _ _ _ _ _).mono ?_
  rintro e w1 ⟨rfl, b1⟩
  obtain ⟨c1, f1⟩ := b1.cells
  have z1 := b1.size
  try simp only [World.size_alloc] at c1 f1 z1
  have y1_0 : w.heap.size < w1.heap.size := by omega
  have k1_0_0 : w1.cell? ⟨w.heap.size, 0, none⟩ = some (.int .i64 r) := (c1 _ _ (by omega)).trans (by go_simp)
  have g1_0_0 : w1.frozen? ⟨w.heap.size, 0, none⟩ = false := (f1 _ _ (by omega)).trans (by go_simp)
  have k1_0_1 : w1.cell? ⟨w.heap.size, 1, none⟩ = some (.int .i64 c) := (c1 _ _ (by omega)).trans (by go_simp)
  have g1_0_1 : w1.frozen? ⟨w.heap.size, 1, none⟩ = false := (f1 _ _ (by omega)).trans (by go_simp)
  have k1_0_2 : w1.cell? ⟨w.heap.size, 2, none⟩ = some (.int .i64 k) := (c1 _ _ (by omega)).trans (by go_simp)
  have g1_0_2 : w1.frozen? ⟨w.heap.size, 2, none⟩ = false := (f1 _ _ (by omega)).trans (by go_simp)
  have k1_0_3 : w1.cell? ⟨w.heap.size, 3, none⟩ = some (.int .i64 l) := (c1 _ _ (by omega)).trans (by go_simp)
  have g1_0_3 : w1.frozen? ⟨w.heap.size, 3, none⟩ = false := (f1 _ _ (by omega)).trans (by go_simp)
  have k1_0_4 : w1.cell? ⟨w.heap.size, 4, none⟩ = some (.int .i64 s) := (c1 _ _ (by omega)).trans (by go_simp)
  have g1_0_4 : w1.frozen? ⟨w.heap.size, 4, none⟩ = false := (f1 _ _ (by omega)).trans (by go_simp)
  have y1_1 : w.heap.size + 1 < w1.heap.size := by omega
  have k1_1_0 : w1.cell? ⟨w.heap.size + 1, 0, none⟩ = some (.int .i64 0) := (c1 _ _ (by omega)).trans (by go_simp)
  have g1_1_0 : w1.frozen? ⟨w.heap.size + 1, 0, none⟩ = false := (f1 _ _ (by omega)).trans (by go_simp)
  have k1_1_1 : w1.cell? ⟨w.heap.size + 1, 1, none⟩ = some (.int .i64 0) := (c1 _ _ (by omega)).trans (by go_simp)
  have g1_1_1 : w1.frozen? ⟨w.heap.size + 1, 1, none⟩ = false := (f1 _ _ (by omega)).trans (by go_simp)
  have k1_1_2 : w1.cell? ⟨w.heap.size + 1, 2, none⟩ = some (.int .i64 0) := (c1 _ _ (by omega)).trans (by go_simp)
  have g1_1_2 : w1.frozen? ⟨w.heap.size + 1, 2, none⟩ = false := (f1 _ _ (by omega)).trans (by go_simp)
  have k1_1_3 : w1.cell? ⟨w.heap.size + 1, 3, none⟩ = some (.int .i64 0) := (c1 _ _ (by omega)).trans (by go_simp)
  have g1_1_3 : w1.frozen? ⟨w.heap.size + 1, 3, none⟩ = false := (f1 _ _ (by omega)).trans (by go_simp)
  have k1_1_4 : w1.cell? ⟨w.heap.size + 1, 4, none⟩ = some (.int .i64 0) := (c1 _ _ (by omega)).trans (by go_simp)
  have g1_1_4 : w1.frozen? ⟨w.heap.size + 1, 4, none⟩ = false := (f1 _ _ (by omega)).trans (by go_simp)
  clear c1 f1
  go_wp2_with fail
  refine (rate_impl' H.out h0 hp _).mono ?_
  rintro e w2 ⟨rfl, b2⟩
  obtain ⟨c2, f2⟩ := b2.cells
  have z2 := b2.size
  try simp only [World.size_alloc] at c2 f2 z2
  have y2_0 : w.heap.size < w2.heap.size := by omega
  have k2_0_0 : w2.cell? ⟨w.heap.size, 0, none⟩ = some (.int .i64 r) := (c2 _ _ (by omega)).trans (by go_simp)
  have g2_0_0 : w2.frozen? ⟨w.heap.size, 0, none⟩ = false := (f2 _ _ (by omega)).trans (by go_simp)
  have k2_0_1 : w2.cell? ⟨w.heap.size, 1, none⟩ = some (.int .i64 c) := (c2 _ _ (by omega)).trans (by go_simp)
  have g2_0_1 : w2.frozen? ⟨w.heap.size, 1, none⟩ = false := (f2 _ _ (by omega)).trans (by go_simp)
  have k2_0_2 : w2.cell? ⟨w.heap.size, 2, none⟩ = some (.int .i64 k) := (c2 _ _ (by omega)).trans (by go_simp)
  have g2_0_2 : w2.frozen? ⟨w.heap.size, 2, none⟩ = false := (f2 _ _ (by omega)).trans (by go_simp)
  have k2_0_3 : w2.cell? ⟨w.heap.size, 3, none⟩ = some (.int .i64 l) := (c2 _ _ (by omega)).trans (by go_simp)
  have g2_0_3 : w2.frozen? ⟨w.heap.size, 3, none⟩ = false := (f2 _ _ (by omega)).trans (by go_simp)
  have k2_0_4 : w2.cell? ⟨w.heap.size, 4, none⟩ = some (.int .i64 s) := (c2 _ _ (by omega)).trans (by go_simp)
  have g2_0_4 : w2.frozen? ⟨w.heap.size, 4, none⟩ = false := (f2 _ _ (by omega)).trans (by go_simp)
  have y2_1 : w.heap.size + 1 < w2.heap.size := by omega
  have k2_1_0 : w2.cell? ⟨w.heap.size + 1, 0, none⟩ = some (.int .i64 0) := (c2 _ _ (by omega)).trans (by go_simp)
  have g2_1_0 : w2.frozen? ⟨w.heap.size + 1, 0, none⟩ = false := (f2 _ _ (by omega)).trans (by go_simp)
  have k2_1_1 : w2.cell? ⟨w.heap.size + 1, 1, none⟩ = some (.int .i64 0) := (c2 _ _ (by omega)).trans (by go_simp)
  have g2_1_1 : w2.frozen? ⟨w.heap.size + 1, 1, none⟩ = false := (f2 _ _ (by omega)).trans (by go_simp)
  have k2_1_2 : w2.cell? ⟨w.heap.size + 1, 2, none⟩ = some (.int .i64 0) := (c2 _ _ (by omega)).trans (by go_simp)
  have g2_1_2 : w2.frozen? ⟨w.heap.size + 1, 2, none⟩ = false := (f2 _ _ (by omega)).trans (by go_simp)
  have k2_1_3 : w2.cell? ⟨w.heap.size + 1, 3, none⟩ = some (.int .i64 0) := (c2 _ _ (by omega)).trans (by go_simp)
  have g2_1_3 : w2.frozen? ⟨w.heap.size + 1, 3, none⟩ = false := (f2 _ _ (by omega)).trans (by go_simp)
  have k2_1_4 : w2.cell? ⟨w.heap.size + 1, 4, none⟩ = some (.int .i64 0) := (c2 _ _ (by omega)).trans (by go_simp)
  have g2_1_4 : w2.frozen? ⟨w.heap.size + 1, 4, none⟩ = false := (f2 _ _ (by omega)).trans (by go_simp)
  clear c2 f2
  go_wp2
  refine bodyPost_ret (v := ctl R R k l s) (by simp [results, Try.results24, go_sem, *]) rfl ⟨rfl, ?_⟩
  repeat (first | with_reducible exact Ext.refl _ | with_reducible assumption | with_reducible refine Ext.alloc ?_ _ | with_reducible refine Ext.drew ?_ | with_reducible refine Ext.drewN ?_ _ | (with_reducible refine Ext.setCell ?_ ?hle _; case hle => (first | (with_reducible exact Nat.le_refl _) | omega | (dsimp only; omega) | (simp only [World.size_alloc]; omega))) | with_reducible refine Ext.trans ?_ (by with_reducible assumption))

set_option maxHeartbeats 400000 in
theorem low_impl_g (r c l s p R : Int) (hv : vcB r c R l s = true) (h0 : 0 ≤ p) (hp : p ≤ 9223372036854775807) (H : Hid (rfp p = R)) (hR1 : 1 ≤ R) (hR8 : R ≤ 8) (g1 : R < r) (w : World) :
    Calls Try.prog 24 #[ctl r c R l s, .int .i64 p] w fun e w' => e = .returned (ctl R R R l s) ∧ Ext w w' := by
  go_enter Try.func24, Try.ntmps24
  go_wp2_with fail
  refine (valid_impl _ _ _ _ _ _).mono ?_
  rintro e w1 ⟨rfl, b1⟩
  obtain ⟨c1, f1⟩ := b1.cells
  have z1 := b1.size
  try simp only [World.size_alloc] at c1 f1 z1
  have y1_0 : w.heap.size < w1.heap.size := by omega
  have k1_0_0 : w1.cell? ⟨w.heap.size, 0, none⟩ = some (.int .i64 r) := (c1 _ _ (by omega)).trans (by go_simp)
  have g1_0_0 : w1.frozen? ⟨w.heap.size, 0, none⟩ = false := (f1 _ _ (by omega)).trans (by go_simp)
  have k1_0_1 : w1.cell? ⟨w.heap.size, 1, none⟩ = some (.int .i64 c) := (c1 _ _ (by omega)).trans (by go_simp)
  have g1_0_1 : w1.frozen? ⟨w.heap.size, 1, none⟩ = false := (f1 _ _ (by omega)).trans (by go_simp)
  have k1_0_2 : w1.cell? ⟨w.heap.size, 2, none⟩ = some (.int .i64 R) := (c1 _ _ (by omega)).trans (by go_simp)
  have g1_0_2 : w1.frozen? ⟨w.heap.size, 2, none⟩ = false := (f1 _ _ (by omega)).trans (by go_simp)
  have k1_0_3 : w1.cell? ⟨w.heap.size, 3, none⟩ = some (.int .i64 l) := (c1 _ _ (by omega)).trans (by go_simp)
  have g1_0_3 : w1.frozen? ⟨w.heap.size, 3, none⟩ = false := (f1 _ _ (by omega)).trans (by go_simp)
  have k1_0_4 : w1.cell? ⟨w.heap.size, 4, none⟩ = some (.int .i64 s) := (c1 _ _ (by omega)).trans (by go_simp)
  have g1_0_4 : w1.frozen? ⟨w.heap.size, 4, none⟩ = false := (f1 _ _ (by omega)).trans (by go_simp)
  have y1_1 : w.heap.size + 1 < w1.heap.size := by omega
  have k1_1_0 : w1.cell? ⟨w.heap.size + 1, 0, none⟩ = some (.int .i64 0) := (c1 _ _ (by omega)).trans (by go_simp)
  have g1_1_0 : w1.frozen? ⟨w.heap.size + 1, 0, none⟩ = false := (f1 _ _ (by omega)).trans (by go_simp)
  have k1_1_1 : w1.cell? ⟨w.heap.size + 1, 1, none⟩ = some (.int .i64 0) := (c1 _ _ (by omega)).trans (by go_simp)
  have g1_1_1 : w1.frozen? ⟨w.heap.size + 1, 1, none⟩ = false := (f1 _ _ (by omega)).trans (by go_simp)
  have k1_1_2 : w1.cell? ⟨w.heap.size + 1, 2, none⟩ = some (.int .i64 0) := (c1 _ _ (by omega)).trans (by go_simp)
  have g1_1_2 : w1.frozen? ⟨w.heap.size + 1, 2, none⟩ = false := (f1 _ _ (by omega)).trans (by go_simp)
  have k1_1_3 : w1.cell? ⟨w.heap.size + 1, 3, none⟩ = some (.int .i64 0) := (c1 _ _ (by omega)).trans (by go_simp)
  have g1_1_3 : w1.frozen? ⟨w.heap.size + 1, 3, none⟩ = false := (f1 _ _ (by omega)).trans (by go_simp)
  have k1_1_4 : w1.cell? ⟨w.heap.size + 1, 4, none⟩ = some (.int .i64 0) := (c1 _ _ (by omega)).trans (by go_simp)
  have g1_1_4 : w1.frozen? ⟨w.heap.size + 1, 4, none⟩ = false := (f1 _ _ (by omega)).trans (by go_simp)
  clear c1 f1
  go_wp2_with fail
  refine (rate_impl' H.out h0 hp _).mono ?_
  rintro e w2 ⟨rfl, b2⟩
  obtain ⟨c2, f2⟩ := b2.cells
  have z2 := b2.size
  try simp only [World.size_alloc] at c2 f2 z2
  have y2_0 : w.heap.size < w2.heap.size := by omega
  have k2_0_0 : w2.cell? ⟨w.heap.size, 0, none⟩ = some (.int .i64 r) := (c2 _ _ (by omega)).trans (by go_simp)
  have g2_0_0 : w2.frozen? ⟨w.heap.size, 0, none⟩ = false := (f2 _ _ (by omega)).trans (by go_simp)
  have k2_0_1 : w2.cell? ⟨w.heap.size, 1, none⟩ = some (.int .i64 c) := (c2 _ _ (by omega)).trans (by go_simp)
  have g2_0_1 : w2.frozen? ⟨w.heap.size, 1, none⟩ = false := (f2 _ _ (by omega)).trans (by go_simp)
  have k2_0_2 : w2.cell? ⟨w.heap.size, 2, none⟩ = some (.int .i64 R) := (c2 _ _ (by omega)).trans (by go_simp)
  have g2_0_2 : w2.frozen? ⟨w.heap.size, 2, none⟩ = false := (f2 _ _ (by omega)).trans (by go_simp)
  have k2_0_3 : w2.cell? ⟨w.heap.size, 3, none⟩ = some (.int .i64 l) := (c2 _ _ (by omega)).trans (by go_simp)
  have g2_0_3 : w2.frozen? ⟨w.heap.size, 3, none⟩ = false := (f2 _ _ (by omega)).trans (by go_simp)
  have k2_0_4 : w2.cell? ⟨w.heap.size, 4, none⟩ = some (.int .i64 s) := (c2 _ _ (by omega)).trans (by go_simp)
  have g2_0_4 : w2.frozen? ⟨w.heap.size, 4, none⟩ = false := (f2 _ _ (by omega)).trans (by go_simp)
  have y2_1 : w.heap.size + 1 < w2.heap.size := by omega
  have k2_1_0 : w2.cell? ⟨w.heap.size + 1, 0, none⟩ = some (.int .i64 0) := (c2 _ _ (by omega)).trans (by go_simp)
  have g2_1_0 : w2.frozen? ⟨w.heap.size + 1, 0, none⟩ = false := (f2 _ _ (by omega)).trans (by go_simp)
  have k2_1_1 : w2.cell? ⟨w.heap.size + 1, 1, none⟩ = some (.int .i64 0) := (c2 _ _ (by omega)).trans (by go_simp)
  have g2_1_1 : w2.frozen? ⟨w.heap.size + 1, 1, none⟩ = false := (f2 _ _ (by omega)).trans (by go_simp)
  have k2_1_2 : w2.cell? ⟨w.heap.size + 1, 2, none⟩ = some (.int .i64 0) := (c2 _ _ (by omega)).trans (by go_simp)
  have g2_1_2 : w2.frozen? ⟨w.heap.size + 1, 2, none⟩ = false := (f2 _ _ (by omega)).trans (by go_simp)
  have k2_1_3 : w2.cell? ⟨w.heap.size + 1, 3, none⟩ = some (.int .i64 0) := (c2 _ _ (by omega)).trans (by go_simp)
  have g2_1_3 : w2.frozen? ⟨w.heap.size + 1, 3, none⟩ = false := (f2 _ _ (by omega)).trans (by go_simp)
  have k2_1_4 : w2.cell? ⟨w.heap.size + 1, 4, none⟩ = some (.int .i64 0) := (c2 _ _ (by omega)).trans (by go_simp)
  have g2_1_4 : w2.frozen? ⟨w.heap.size + 1, 4, none⟩ = false := (f2 _ _ (by omega)).trans (by go_simp)
  clear c2 f2
  go_wp2
  refine bodyPost_ret (v := ctl R R R l s) (by simp [results, Try.results24, go_sem, *]) rfl ⟨rfl, ?_⟩
  repeat (first | with_reducible exact Ext.refl _ | with_reducible assumption | with_reducible refine Ext.alloc ?_ _ | with_reducible refine Ext.drew ?_ | with_reducible refine Ext.drewN ?_ _ | (with_reducible refine Ext.setCell ?_ ?hle _; case hle => (first | (with_reducible exact Nat.le_refl _) | omega | (dsimp only; omega) | (simp only [World.size_alloc]; omega))) | with_reducible refine Ext.trans ?_ (by with_reducible assumption))

set_option maxHeartbeats 400000 in
theorem low_impl_h (r c k l s p R : Int) (hv : vcB r c k l s = true) (h0 : 0 ≤ p) (hp : p ≤ 9223372036854775807) (H : Hid (rfp p = R)) (hR1 : 1 ≤ R) (hR8 : R ≤ 8) (g1 : R < r) (g2 : R < k) (w : World) :
    Calls Try.prog 24 #[ctl r c k l s, .int .i64 p] w fun e w' => e = .returned (ctl R R R l s) ∧ Ext w w' := by
  go_enter Try.func24, Try.ntmps24
  go_wp2_with fail
  refine (valid_impl _ _ _ _ _ _).mono ?_
  rintro e w1 ⟨rfl, b1⟩
  obtain ⟨c1, f1⟩ := b1.cells
  have z1 := b1.size
  try simp only [World.size_alloc] at c1 f1 z1
  have y1_0 : w.heap.size < w1.heap.size := by omega
  have k1_0_0 : w1.cell? ⟨w.heap.size, 0, none⟩ = some (.int .i64 r) := (c1 _ _ (by omega)).trans (by go_simp)
  have g1_0_0 : w1.frozen? ⟨w.heap.size, 0, none⟩ = false := (f1 _ _ (by omega)).trans (by go_simp)
  have k1_0_1 : w1.cell? ⟨w.heap.size, 1, none⟩ = some (.int .i64 c) := (c1 _ _ (by omega)).trans (by go_simp)
  have g1_0_1 : w1.frozen? ⟨w.heap.size, 1, none⟩ = false := (f1 _ _ (by omega)).trans (by go_simp)
  have k1_0_2 : w1.cell? ⟨w.heap.size, 2, none⟩ = some (.int .i64 k) := (c1 _ _ (by omega)).trans (by go_simp)
  have g1_0_2 : w1.frozen? ⟨w.heap.size, 2, none⟩ = false := (f1 _ _ (by omega)).trans (by go_simp)
  have k1_0_3 : w1.cell? ⟨w.heap.size, 3, none⟩ = some (.int .i64 l) := (c1 _ _ (by omega)).trans (by go_simp)
  have g1_0_3 : w1.frozen? ⟨w.heap.size, 3, none⟩ = false := (f1 _ _ (by omega)).trans (by go_simp)
  have k1_0_4 : w1.cell? ⟨w.heap.size, 4, none⟩ = some (.int .i64 s) := (c1 _ _ (by omega)).trans (by go_simp)
  have g1_0_4 : w1.frozen? ⟨w.heap.size, 4, none⟩ = false := (f1 _ _ (by omega)).trans (by go_simp)
  have y1_1 : w.heap.size + 1 < w1.heap.size := by omega
  have k1_1_0 : w1.cell? ⟨w.heap.size + 1, 0, none⟩ = some (.int .i64 0) := (c1 _ _ (by omega)).trans (by go_simp)
  have g1_1_0 : w1.frozen? ⟨w.heap.size + 1, 0, none⟩ = false := (f1 _ _ (by omega)).trans (by go_simp)
  have k1_1_1 : w1.cell? ⟨w.heap.size + 1, 1, none⟩ = some (.int .i64 0) := (c1 _ _ (by omega)).trans (by go_simp)
  have g1_1_1 : w1.frozen? ⟨w.heap.size + 1, 1, none⟩ = false := (f1 _ _ (by omega)).trans (by go_simp)
  have k1_1_2 : w1.cell? ⟨w.heap.size + 1, 2, none⟩ = some (.int .i64 0) := (c1 _ _ (by omega)).trans (by go_simp)
  have g1_1_2 : w1.frozen? ⟨w.heap.size + 1, 2, none⟩ = false := (f1 _ _ (by omega)).trans (by go_simp)
  have k1_1_3 : w1.cell? ⟨w.heap.size + 1, 3, none⟩ = some (.int .i64 0) := (c1 _ _ (by omega)).trans (by go_simp)
  have g1_1_3 : w1.frozen? ⟨w.heap.size + 1, 3, none⟩ = false := (f1 _ _ (by omega)).trans (by go_simp)
  have k1_1_4 : w1.cell? ⟨w.heap.size + 1, 4, none⟩ = some (.int .i64 0) := (c1 _ _ (by omega)).trans (by go_simp)
  have g1_1_4 : w1.frozen? ⟨w.heap.size + 1, 4, none⟩ = false := (f1 _ _ (by omega)).trans (by go_simp)
  clear c1 f1
  go_wp2_with fail
  refine (rate_impl' H.out h0 hp _).mono ?_
  rintro e w2 ⟨rfl, b2⟩
  obtain ⟨c2, f2⟩ := b2.cells
  have z2 := b2.size
  try simp only [World.size_alloc] at c2 f2 z2
  have y2_0 : w.heap.size < w2.heap.size := by omega
  have k2_0_0 : w2.cell? ⟨w.heap.size, 0, none⟩ = some (.int .i64 r) := (c2 _ _ (by omega)).trans (by go_simp)
  have g2_0_0 : w2.frozen? ⟨w.heap.size, 0, none⟩ = false := (f2 _ _ (by omega)).trans (by go_simp)
  have k2_0_1 : w2.cell? ⟨w.heap.size, 1, none⟩ = some (.int .i64 c) := (c2 _ _ (by omega)).trans (by go_simp)
  have g2_0_1 : w2.frozen? ⟨w.heap.size, 1, none⟩ = false := (f2 _ _ (by omega)).trans (by go_simp)
  have k2_0_2 : w2.cell? ⟨w.heap.size, 2, none⟩ = some (.int .i64 k) := (c2 _ _ (by omega)).trans (by go_simp)
  have g2_0_2 : w2.frozen? ⟨w.heap.size, 2, none⟩ = false := (f2 _ _ (by omega)).trans (by go_simp)
  have k2_0_3 : w2.cell? ⟨w.heap.size, 3, none⟩ = some (.int .i64 l) := (c2 _ _ (by omega)).trans (by go_simp)
  have g2_0_3 : w2.frozen? ⟨w.heap.size, 3, none⟩ = false := (f2 _ _ (by omega)).trans (by go_simp)
  have k2_0_4 : w2.cell? ⟨w.heap.size, 4, none⟩ = some (.int .i64 s) := (c2 _ _ (by omega)).trans (by go_simp)
  have g2_0_4 : w2.frozen? ⟨w.heap.size, 4, none⟩ = false := (f2 _ _ (by omega)).trans (by go_simp)
  have y2_1 : w.heap.size + 1 < w2.heap.size := by omega
  have k2_1_0 : w2.cell? ⟨w.heap.size + 1, 0, none⟩ = some (.int .i64 0) := (c2 _ _ (by omega)).trans (by go_simp)
  have g2_1_0 : w2.frozen? ⟨w.heap.size + 1, 0, none⟩ = false := (f2 _ _ (by omega)).trans (by go_simp)
  have k2_1_1 : w2.cell? ⟨w.heap.size + 1, 1, none⟩ = some (.int .i64 0) := (c2 _ _ (by omega)).trans (by go_simp)
  have g2_1_1 : w2.frozen? ⟨w.heap.size + 1, 1, none⟩ = false := (f2 _ _ (by omega)).trans (by go_simp)
  have k2_1_2 : w2.cell? ⟨w.heap.size + 1, 2, none⟩ = some (.int .i64 0) := (c2 _ _ (by omega)).trans (by go_simp)
  have g2_1_2 : w2.frozen? ⟨w.heap.size + 1, 2, none⟩ = false := (f2 _ _ (by omega)).trans (by go_simp)
  have k2_1_3 : w2.cell? ⟨w.heap.size + 1, 3, none⟩ = some (.int .i64 0) := (c2 _ _ (by omega)).trans (by go_simp)
  have g2_1_3 : w2.frozen? ⟨w.heap.size + 1, 3, none⟩ = false := (f2 _ _ (by omega)).trans (by go_simp)
  have k2_1_4 : w2.cell? ⟨w.heap.size + 1, 4, none⟩ = some (.int .i64 0) := (c2 _ _ (by omega)).trans (by go_simp)
  have g2_1_4 : w2.frozen? ⟨w.heap.size + 1, 4, none⟩ = false := (f2 _ _ (by omega)).trans (by go_simp)
  clear c2 f2
  go_wp2
  refine bodyPost_ret (v := ctl R R R l s) (by simp [results, Try.results24, go_sem, *]) rfl ⟨rfl, ?_⟩
  repeat (first | with_reducible exact Ext.refl _ | with_reducible assumption | with_reducible refine Ext.alloc ?_ _ | with_reducible refine Ext.drew ?_ | with_reducible refine Ext.drewN ?_ _ | (with_reducible refine Ext.setCell ?_ ?hle _; case hle => (first | (with_reducible exact Nat.le_refl _) | omega | (dsimp only; omega) | (simp only [World.size_alloc]; omega))) | with_reducible refine Ext.trans ?_ (by with_reducible assumption))

set_option maxHeartbeats 400000 in
theorem low_spec_a (r c k l s p : Int) (hv : vcB r c k l s = false) (w : World) :
    Calls Try.prog 23 #[ctl r c k l s, .int .i64 p] w fun e w' => e = .returned (ctl r c k l s) ∧ Ext w w' := by
  go_enter Try.func23, Try.ntmps23
  go_wp2_with fail
  refine (valid_spec _ _ _ _ _ _).mono ?_
  rintro e w1 ⟨rfl, b1⟩
  obtain ⟨c1, f1⟩ := b1.cells
  have z1 := b1.size
  try simp only [World.size_alloc] at c1 f1 z1
  have y1_0 : w.heap.size < w1.heap.size := by omega
  have k1_0_0 : w1.cell? ⟨w.heap.size, 0, none⟩ = some (.int .i64 r) := (c1 _ _ (by omega)).trans (by go_simp)
  have g1_0_0 : w1.frozen? ⟨w.heap.size, 0, none⟩ = false := (f1 _ _ (by omega)).trans (by go_simp)
  have k1_0_1 : w1.cell? ⟨w.heap.size, 1, none⟩ = some (.int .i64 c) := (c1 _ _ (by omega)).trans (by go_simp)
  have g1_0_1 : w1.frozen? ⟨w.heap.size, 1, none⟩ = false := (f1 _ _ (by omega)).trans (by go_simp)
  have k1_0_2 : w1.cell? ⟨w.heap.size, 2, none⟩ = some (.int .i64 k) := (c1 _ _ (by omega)).trans (by go_simp)
  have g1_0_2 : w1.frozen? ⟨w.heap.size, 2, none⟩ = false := (f1 _ _ (by omega)).trans (by go_simp)
  have k1_0_3 : w1.cell? ⟨w.heap.size, 3, none⟩ = some (.int .i64 l) := (c1 _ _ (by omega)).trans (by go_simp)
  have g1_0_3 : w1.frozen? ⟨w.heap.size, 3, none⟩ = false := (f1 _ _ (by omega)).trans (by go_simp)
  have k1_0_4 : w1.cell? ⟨w.heap.size, 4, none⟩ = some (.int .i64 s) := (c1 _ _ (by omega)).trans (by go_simp)
  have g1_0_4 : w1.frozen? ⟨w.heap.size, 4, none⟩ = false := (f1 _ _ (by omega)).trans (by go_simp)
  have y1_1 : w.heap.size + 1 < w1.heap.size := by omega
  have k1_1_0 : w1.cell? ⟨w.heap.size + 1, 0, none⟩ = some (.int .i64 0) := (c1 _ _ (by omega)).trans (by go_simp)
  have g1_1_0 : w1.frozen? ⟨w.heap.size + 1, 0, none⟩ = false := (f1 _ _ (by omega)).trans (by go_simp)
  have k1_1_1 : w1.cell? ⟨w.heap.size + 1, 1, none⟩ = some (.int .i64 0) := (c1 _ _ (by omega)).trans (by go_simp)
  have g1_1_1 : w1.frozen? ⟨w.heap.size + 1, 1, none⟩ = false := (f1 _ _ (by omega)).trans (by go_simp)
  have k1_1_2 : w1.cell? ⟨w.heap.size + 1, 2, none⟩ = some (.int .i64 0) := (c1 _ _ (by omega)).trans (by go_simp)
  have g1_1_2 : w1.frozen? ⟨w.heap.size + 1, 2, none⟩ = false := (f1 _ _ (by omega)).trans (by go_simp)
  have k1_1_3 : w1.cell? ⟨w.heap.size + 1, 3, none⟩ = some (.int .i64 0) := (c1 _ _ (by omega)).trans (by go_simp)
  have g1_1_3 : w1.frozen? ⟨w.heap.size + 1, 3, none⟩ = false := (f1 _ _ (by omega)).trans (by go_simp)
  have k1_1_4 : w1.cell? ⟨w.heap.size + 1, 4, none⟩ = some (.int .i64 0) := (c1 _ _ (by omega)).trans (by go_simp)
  have g1_1_4 : w1.frozen? ⟨w.heap.size + 1, 4, none⟩ = false := (f1 _ _ (by omega)).trans (by go_simp)
  clear c1 f1
  go_wp2
  refine bodyPost_ret (v := ctl r c k l s) (by simp [results, Try.results23, go_sem, *]) rfl ⟨rfl, ?_⟩
  repeat (first | with_reducible exact Ext.refl _ | with_reducible assumption | with_reducible refine Ext.alloc ?_ _ | with_reducible refine Ext.drew ?_ | with_reducible refine Ext.drewN ?_ _ | (with_reducible refine Ext.setCell ?_ ?hle _; case hle => (first | (with_reducible exact Nat.le_refl _) | omega | (dsimp only; omega) | (simp only [World.size_alloc]; omega))) | with_reducible refine Ext.trans ?_ (by with_reducible assumption))

set_option maxHeartbeats 400000 in
theorem low_spec_b (r c k l s p : Int) (hv : vcB r c k l s = true) (h : p < 0) (w : World) :
    Calls Try.prog 23 #[ctl r c k l s, .int .i64 p] w fun e w' => e = .returned (ctl r c k l s) ∧ Ext w w' := by
  go_enter Try.func23, Try.ntmps23
  go_wp2_with fail
  refine (valid_spec _ _ _ _ _ _).mono ?_
  rintro e w1 ⟨rfl, b1⟩
  obtain ⟨c1, f1⟩ := b1.cells
  have z1 := b1.size
  try simp only [World.size_alloc] at c1 f1 z1
  have y1_0 : w.heap.size < w1.heap.size := by omega
  have k1_0_0 : w1.cell? ⟨w.heap.size, 0, none⟩ = some (.int .i64 r) := (c1 _ _ (by omega)).trans (by go_simp)
  have g1_0_0 : w1.frozen? ⟨w.heap.size, 0, none⟩ = false := (f1 _ _ (by omega)).trans (by go_simp)
  have k1_0_1 : w1.cell? ⟨w.heap.size, 1, none⟩ = some (.int .i64 c) := (c1 _ _ (by omega)).trans (by go_simp)
  have g1_0_1 : w1.frozen? ⟨w.heap.size, 1, none⟩ = false := (f1 _ _ (by omega)).trans (by go_simp)
  have k1_0_2 : w1.cell? ⟨w.heap.size, 2, none⟩ = some (.int .i64 k) := (c1 _ _ (by omega)).trans (by go_simp)
  have g1_0_2 : w1.frozen? ⟨w.heap.size, 2, none⟩ = false := (f1 _ _ (by omega)).trans (by go_simp)
  have k1_0_3 : w1.cell? ⟨w.heap.size, 3, none⟩ = some (.int .i64 l) := (c1 _ _ (by omega)).trans (by go_simp)
  have g1_0_3 : w1.frozen? ⟨w.heap.size, 3, none⟩ = false := (f1 _ _ (by omega)).trans (by go_simp)
  have k1_0_4 : w1.cell? ⟨w.heap.size, 4, none⟩ = some (.int .i64 s) := (c1 _ _ (by omega)).trans (by go_simp)
  have g1_0_4 : w1.frozen? ⟨w.heap.size, 4, none⟩ = false := (f1 _ _ (by omega)).trans (by go_simp)
  have y1_1 : w.heap.size + 1 < w1.heap.size := by omega
  have k1_1_0 : w1.cell? ⟨w.heap.size + 1, 0, none⟩ = some (.int .i64 0) := (c1 _ _ (by omega)).trans (by go_simp)
  have g1_1_0 : w1.frozen? ⟨w.heap.size + 1, 0, none⟩ = false := (f1 _ _ (by omega)).trans (by go_simp)
  have k1_1_1 : w1.cell? ⟨w.heap.size + 1, 1, none⟩ = some (.int .i64 0) := (c1 _ _ (by omega)).trans (by go_simp)
  have g1_1_1 : w1.frozen? ⟨w.heap.size + 1, 1, none⟩ = false := (f1 _ _ (by omega)).trans (by go_simp)
  have k1_1_2 : w1.cell? ⟨w.heap.size + 1, 2, none⟩ = some (.int .i64 0) := (c1 _ _ (by omega)).trans (by go_simp)
  have g1_1_2 : w1.frozen? ⟨w.heap.size + 1, 2, none⟩ = false := (f1 _ _ (by omega)).trans (by go_simp)
  have k1_1_3 : w1.cell? ⟨w.heap.size + 1, 3, none⟩ = some (.int .i64 0) := (c1 _ _ (by omega)).trans (by go_simp)
  have g1_1_3 : w1.frozen? ⟨w.heap.size + 1, 3, none⟩ = false := (f1 _ _ (by omega)).trans (by go_simp)
  have k1_1_4 : w1.cell? ⟨w.heap.size + 1, 4, none⟩ = some (.int .i64 0) := (c1 _ _ (by omega)).trans (by go_simp)
  have g1_1_4 : w1.frozen? ⟨w.heap.size + 1, 4, none⟩ = false := (f1 _ _ (by omega)).trans (by go_simp)
  clear c1 f1
  go_wp2
  refine bodyPost_ret (v := ctl r c k l s) (by simp [results, Try.results23, go_sem, *]) rfl ⟨rfl, ?_⟩
  repeat (first | with_reducible exact Ext.refl _ | with_reducible assumption | with_reducible refine Ext.alloc ?_ _ | with_reducible refine Ext.drew ?_ | with_reducible refine Ext.drewN ?_ _ | (with_reducible refine Ext.setCell ?_ ?hle _; case hle => (first | (with_reducible exact Nat.le_refl _) | omega | (dsimp only; omega) | (simp only [World.size_alloc]; omega))) | with_reducible refine Ext.trans ?_ (by with_reducible assumption))

set_option maxHeartbeats 400000 in
theorem low_spec_c (r c k l s p R : Int) (hv : vcB r c k l s = true) (h0 : 0 ≤ p) (hp : p ≤ 9223372036854775807) (H : Hid (rfp p = R)) (hR1 : 1 ≤ R) (hR8 : R ≤ 8) (g1 : r < R) (g2 : k < R) (w : World) :
    Calls Try.prog 23 #[ctl r c k l s, .int .i64 p] w fun e w' => e = .returned (ctl r R k l s) ∧ Ext w w' := by
  go_enter Try.func23, Try.ntmps23
  go_wp2_with fail
  refine (valid_spec _ _ _ _ _ _).mono ?_
  rintro e w1 ⟨rfl, b1⟩
  obtain ⟨c1, f1⟩ := b1.cells
  have z1 := b1.size
  try simp only [World.size_alloc] at c1 f1 z1
  have y1_0 : w.heap.size < w1.heap.size := by omega
  have k1_0_0 : w1.cell? ⟨w.heap.size, 0, none⟩ = some (.int .i64 r) := (c1 _ _ (by omega)).trans (by go_simp)
  have g1_0_0 : w1.frozen? ⟨w.heap.size, 0, none⟩ = false := (f1 _ _ (by omega)).trans (by go_simp)
  have k1_0_1 : w1.cell? ⟨w.heap.size, 1, none⟩ = some (.int .i64 c) := (c1 _ _ (by omega)).trans (by go_simp)
  have g1_0_1 : w1.frozen? ⟨w.heap.size, 1, none⟩ = false := (f1 _ _ (by omega)).trans (by go_simp)
  have k1_0_2 : w1.cell? ⟨w.heap.size, 2, none⟩ = some (.int .i64 k) := (c1 _ _ (by omega)).trans (by go_simp)
  have g1_0_2 : w1.frozen? ⟨w.heap.size, 2, none⟩ = false := (f1 _ _ (by omega)).trans (by go_simp)
  have k1_0_3 : w1.cell? ⟨w.heap.size, 3, none⟩ = some (.int .i64 l) := (c1 _ _ (by omega)).trans (by go_simp)
  have g1_0_3 : w1.frozen? ⟨w.heap.size, 3, none⟩ = false := (f1 _ _ (by omega)).trans (by go_simp)
  have k1_0_4 : w1.cell? ⟨w.heap.size, 4, none⟩ = some (.int .i64 s) := (c1 _ _ (by omega)).trans (by go_simp)
  have g1_0_4 : w1.frozen? ⟨w.heap.size, 4, none⟩ = false := (f1 _ _ (by omega)).trans (by go_simp)
  have y1_1 : w.heap.size + 1 < w1.heap.size := by omega
  have k1_1_0 : w1.cell? ⟨w.heap.size + 1, 0, none⟩ = some (.int .i64 0) := (c1 _ _ (by omega)).trans (by go_simp)
  have g1_1_0 : w1.frozen? ⟨w.heap.size + 1, 0, none⟩ = false := (f1 _ _ (by omega)).trans (by go_simp)
  have k1_1_1 : w1.cell? ⟨w.heap.size + 1, 1, none⟩ = some (.int .i64 0) := (c1 _ _ (by omega)).trans (by go_simp)
  have g1_1_1 : w1.frozen? ⟨w.heap.size + 1, 1, none⟩ = false := (f1 _ _ (by omega)).trans (by go_simp)
  have k1_1_2 : w1.cell? ⟨w.heap.size + 1, 2, none⟩ = some (.int .i64 0) := (c1 _ _ (by omega)).trans (by go_simp)
  have g1_1_2 : w1.frozen? ⟨w.heap.size + 1, 2, none⟩ = false := (f1 _ _ (by omega)).trans (by go_simp)
  have k1_1_3 : w1.cell? ⟨w.heap.size + 1, 3, none⟩ = some (.int .i64 0) := (c1 _ _ (by omega)).trans (by go_simp)
  have g1_1_3 : w1.frozen? ⟨w.heap.size + 1, 3, none⟩ = false := (f1 _ _ (by omega)).trans (by go_simp)
  have k1_1_4 : w1.cell? ⟨w.heap.size + 1, 4, none⟩ = some (.int .i64 0) := (c1 _ _ (by omega)).trans (by go_simp)
  have g1_1_4 : w1.frozen? ⟨w.heap.size + 1, 4, none⟩ = false := (f1 _ _ (by omega)).trans (by go_simp)
  clear c1 f1
  go_wp2_with fail
  refine (rate_spec' H.out h0 hp _).mono ?_
  rintro e w2 ⟨rfl, b2⟩
  obtain ⟨c2, f2⟩ := b2.cells
  have z2 := b2.size
  try simp only [World.size_alloc] at c2 f2 z2
  have y2_0 : w.heap.size < w2.heap.size := by omega
  have k2_0_0 : w2.cell? ⟨w.heap.size, 0, none⟩ = some (.int .i64 r) := (c2 _ _ (by omega)).trans (by go_simp)
  have g2_0_0 : w2.frozen? ⟨w.heap.size, 0, none⟩ = false := (f2 _ _ (by omega)).trans (by go_simp)
  have k2_0_1 : w2.cell? ⟨w.heap.size, 1, none⟩ = some (.int .i64 c) := (c2 _ _ (by omega)).trans (by go_simp)
  have g2_0_1 : w2.frozen? ⟨w.heap.size, 1, none⟩ = false := (f2 _ _ (by omega)).trans (by go_simp)
  have k2_0_2 : w2.cell? ⟨w.heap.size, 2, none⟩ = some (.int .i64 k) := (c2 _ _ (by omega)).trans (by go_simp)
  have g2_0_2 : w2.frozen? ⟨w.heap.size, 2, none⟩ = false := (f2 _ _ (by omega)).trans (by go_simp)
  have k2_0_3 : w2.cell? ⟨w.heap.size, 3, none⟩ = some (.int .i64 l) := (c2 _ _ (by omega)).trans (by go_simp)
  have g2_0_3 : w2.frozen? ⟨w.heap.size, 3, none⟩ = false := (f2 _ _ (by omega)).trans (by go_simp)
  have k2_0_4 : w2.cell? ⟨w.heap.size, 4, none⟩ = some (.int .i64 s) := (c2 _ _ (by omega)).trans (by go_simp)
  have g2_0_4 : w2.frozen? ⟨w.heap.size, 4, none⟩ = false := (f2 _ _ (by omega)).trans (by go_simp)
  have y2_1 : w.heap.size + 1 < w2.heap.size := by omega
  have k2_1_0 : w2.cell? ⟨w.heap.size + 1, 0, none⟩ = some (.int .i64 0) := (c2 _ _ (by omega)).trans (by go_simp)
  have g2_1_0 : w2.frozen? ⟨w.heap.size + 1, 0, none⟩ = false := (f2 _ _ (by omega)).trans (by go_simp)
  have k2_1_1 : w2.cell? ⟨w.heap.size + 1, 1, none⟩ = some (.int .i64 0) := (c2 _ _ (by omega)).trans (by go_simp)
  have g2_1_1 : w2.frozen? ⟨w.heap.size + 1, 1, none⟩ = false := (f2 _ _ (by omega)).trans (by go_simp)
  have k2_1_2 : w2.cell? ⟨w.heap.size + 1, 2, none⟩ = some (.int .i64 0) := (c2 _ _ (by omega)).trans (by go_simp)
  have g2_1_2 : w2.frozen? ⟨w.heap.size + 1, 2, none⟩ = false := (f2 _ _ (by omega)).trans (by go_simp)
  have k2_1_3 : w2.cell? ⟨w.heap.size + 1, 3, none⟩ = some (.int .i64 0) := (c2 _ _ (by omega)).trans (by go_simp)
  have g2_1_3 : w2.frozen? ⟨w.heap.size + 1, 3, none⟩ = false := (f2 _ _ (by omega)).trans (by go_simp)
  have k2_1_4 : w2.cell? ⟨w.heap.size + 1, 4, none⟩ = some (.int .i64 0) := (c2 _ _ (by omega)).trans (by go_simp)
  have g2_1_4 : w2.frozen? ⟨w.heap.size + 1, 4, none⟩ = false := (f2 _ _ (by omega)).trans (by go_simp)
  have y2_2 : w1.heap.size < w2.heap.size := by omega
  have k2_2_0 : w2.cell? ⟨w1.heap.size, 0, none⟩ = some (.int .i64 r) := (c2 _ _ (by omega)).trans (by go_simp)
  have g2_2_0 : w2.frozen? ⟨w1.heap.size, 0, none⟩ = false := (f2 _ _ (by omega)).trans (by go_simp)
  have k2_2_1 : w2.cell? ⟨w1.heap.size, 1, none⟩ = some (.int .i64 c) := (c2 _ _ (by omega)).trans (by go_simp)
  have g2_2_1 : w2.frozen? ⟨w1.heap.size, 1, none⟩ = false := (f2 _ _ (by omega)).trans (by go_simp)
  have k2_2_2 : w2.cell? ⟨w1.heap.size, 2, none⟩ = some (.int .i64 k) := (c2 _ _ (by omega)).trans (by go_simp)
  have g2_2_2 : w2.frozen? ⟨w1.heap.size, 2, none⟩ = false := (f2 _ _ (by omega)).trans (by go_simp)
  have k2_2_3 : w2.cell? ⟨w1.heap.size, 3, none⟩ = some (.int .i64 l) := (c2 _ _ (by omega)).trans (by go_simp)
  have g2_2_3 : w2.frozen? ⟨w1.heap.size, 3, none⟩ = false := (f2 _ _ (by omega)).trans (by go_simp)
  have k2_2_4 : w2.cell? ⟨w1.heap.size, 4, none⟩ = some (.int .i64 s) := (c2 _ _ (by omega)).trans (by go_simp)
  have g2_2_4 : w2.frozen? ⟨w1.heap.size, 4, none⟩ = false := (f2 _ _ (by omega)).trans (by go_simp)
  clear c2 f2
  go_wp2
  refine bodyPost_ret (v := ctl r R k l s) (by simp [results, Try.results23, go_sem, *]) rfl ⟨rfl, ?_⟩
  repeat (first | with_reducible exact Ext.refl _ | with_reducible assumption | with_reducible refine Ext.alloc ?_ _ | with_reducible refine Ext.drew ?_ | with_reducible refine Ext.drewN ?_ _ | (with_reducible refine Ext.setCell ?_ ?hle _; case hle => (first | (with_reducible exact Nat.le_refl _) | omega | (dsimp only; omega) | (simp only [World.size_alloc]; omega))) | with_reducible refine Ext.trans ?_ (by with_reducible assumption))

set_option maxHeartbeats 400000 in
theorem low_spec_d (c k l s p R : Int) (hv : vcB R c k l s = true) (h0 : 0 ≤ p) (hp : p ≤ 9223372036854775807) (H : Hid (rfp p = R)) (hR1 : 1 ≤ R) (hR8 : R ≤ 8) (g2 : k < R) (w : World) :
    Calls Try.prog 23 #[ctl R c k l s, .int .i64 p] w fun e w' => e = .returned (ctl R R k l s) ∧ Ext w w' := by
  go_enter Try.func23, Try.ntmps23
  go_wp2_with fail
  refine (valid_spec _ _ _ _ _ _).mono ?_
  rintro e w1 ⟨rfl, b1⟩
  obtain ⟨c1, f1⟩ := b1.cells
  have z1 := b1.size
  try simp only [World.size_alloc] at c1 f1 z1
  have y1_0 : w.heap.size < w1.heap.size := by omega
  have k1_0_0 : w1.cell? ⟨w.heap.size, 0, none⟩ = some (.int .i64 R) := (c1 _ _ (by omega)).trans (by go_simp)
  have g1_0_0 : w1.frozen? ⟨w.heap.size, 0, none⟩ = false := (f1 _ _ (by omega)).trans (by go_simp)
  have k1_0_1 : w1.cell? ⟨w.heap.size, 1, none⟩ = some (.int .i64 c) := (c1 _ _ (by omega)).trans (by go_simp)
  have g1_0_1 : w1.frozen? ⟨w.heap.size, 1, none⟩ = false := (f1 _ _ (by omega)).trans (by go_simp)
  have k1_0_2 : w1.cell? ⟨w.heap.size, 2, none⟩ = some (.int .i64 k) := (c1 _ _ (by omega)).trans (by go_simp)
  have g1_0_2 : w1.frozen? ⟨w.heap.size, 2, none⟩ = false := (f1 _ _ (by omega)).trans (by go_simp)
  have k1_0_3 : w1.cell? ⟨w.heap.size, 3, none⟩ = some (.int .i64 l) := (c1 _ _ (by omega)).trans (by go_simp)
  have g1_0_3 : w1.frozen? ⟨w.heap.size, 3, none⟩ = false := (f1 _ _ (by omega)).trans (by go_simp)
  have k1_0_4 : w1.cell? ⟨w.heap.size, 4, none⟩ = some (.int .i64 s) := (c1 _ _ (by omega)).trans (by go_simp)
  have g1_0_4 : w1.frozen? ⟨w.heap.size, 4, none⟩ = false := (f1 _ _ (by omega)).trans (by go_simp)
  have y1_1 : w.heap.size + 1 < w1.heap.size := by omega
  have k1_1_0 : w1.cell? ⟨w.heap.size + 1, 0, none⟩ = some (.int .i64 0) := (c1 _ _ (by omega)).trans (by go_simp)
  have g1_1_0 : w1.frozen? ⟨w.heap.size + 1, 0, none⟩ = false := (f1 _ _ (by omega)).trans (by go_simp)
  have k1_1_1 : w1.cell? ⟨w.heap.size + 1, 1, none⟩ = some (.int .i64 0) := (c1 _ _ (by omega)).trans (by go_simp)
  have g1_1_1 : w1.frozen? ⟨w.heap.size + 1, 1, none⟩ = false := (f1 _ _ (by omega)).trans (by go_simp)
  have k1_1_2 : w1.cell? ⟨w.heap.size + 1, 2, none⟩ = some (.int .i64 0) := (c1 _ _ (by omega)).trans (by go_simp)
  have g1_1_2 : w1.frozen? ⟨w.heap.size + 1, 2, none⟩ = false := (f1 _ _ (by omega)).trans (by go_simp)
  have k1_1_3 : w1.cell? ⟨w.heap.size + 1, 3, none⟩ = some (.int .i64 0) := (c1 _ _ (by omega)).trans (by go_simp)
  have g1_1_3 : w1.frozen? ⟨w.heap.size + 1, 3, none⟩ = false := (f1 _ _ (by omega)).trans (by go_simp)
  have k1_1_4 : w1.cell? ⟨w.heap.size + 1, 4, none⟩ = some (.int .i64 0) := (c1 _ _ (by omega)).trans (by go_simp)
  have g1_1_4 : w1.frozen? ⟨w.heap.size + 1, 4, none⟩ = false := (f1 _ _ (by omega)).trans (by go_simp)
  clear c1 f1
  go_wp2_with fail
  refine (rate_spec' H.out h0 hp _).mono ?_
  rintro e w2 ⟨rfl, b2⟩
  obtain ⟨c2, f2⟩ := b2.cells
  have z2 := b2.size
  try simp only [World.size_alloc] at c2 f2 z2
  have y2_0 : w.heap.size < w2.heap.size := by omega
  have k2_0_0 : w2.cell? ⟨w.heap.size, 0, none⟩ = some (.int .i64 R) := (c2 _ _ (by omega)).trans (by go_simp)
  have g2_0_0 : w2.frozen? ⟨w.heap.size, 0, none⟩ = false := (f2 _ _ (by omega)).trans (by go_simp)
  have k2_0_1 : w2.cell? ⟨w.heap.size, 1, none⟩ = some (.int .i64 c) := (c2 _ _ (by omega)).trans (by go_simp)
  have g2_0_1 : w2.frozen? ⟨w.heap.size, 1, none⟩ = false := (f2 _ _ (by omega)).trans (by go_simp)
  have k2_0_2 : w2.cell? ⟨w.heap.size, 2, none⟩ = some (.int .i64 k) := (c2 _ _ (by omega)).trans (by go_simp)
  have g2_0_2 : w2.frozen? ⟨w.heap.size, 2, none⟩ = false := (f2 _ _ (by omega)).trans (by go_simp)
  have k2_0_3 : w2.cell? ⟨w.heap.size, 3, none⟩ = some (.int .i64 l) := (c2 _ _ (by omega)).trans (by go_simp)
  have g2_0_3 : w2.frozen? ⟨w.heap.size, 3, none⟩ = false := (f2 _ _ (by omega)).trans (by go_simp)
  have k2_0_4 : w2.cell? ⟨w.heap.size, 4, none⟩ = some (.int .i64 s) := (c2 _ _ (by omega)).trans (by go_simp)
  have g2_0_4 : w2.frozen? ⟨w.heap.size, 4, none⟩ = false := (f2 _ _ (by omega)).trans (by go_simp)
  have y2_1 : w.heap.size + 1 < w2.heap.size := by omega
  have k2_1_0 : w2.cell? ⟨w.heap.size + 1, 0, none⟩ = some (.int .i64 0) := (c2 _ _ (by omega)).trans (by go_simp)
  have g2_1_0 : w2.frozen? ⟨w.heap.size + 1, 0, none⟩ = false := (f2 _ _ (by omega)).trans (by go_simp)
  have k2_1_1 : w2.cell? ⟨w.heap.size + 1, 1, none⟩ = some (.int .i64 0) := (c2 _ _ (by omega)).trans (by go_simp)
  have g2_1_1 : w2.frozen? ⟨w.heap.size + 1, 1, none⟩ = false := (f2 _ _ (by omega)).trans (by go_simp)
  have k2_1_2 : w2.cell? ⟨w.heap.size + 1, 2, none⟩ = some (.int .i64 0) := (c2 _ _ (by omega)).trans (by go_simp)
  have g2_1_2 : w2.frozen? ⟨w.heap.size + 1, 2, none⟩ = false := (f2 _ _ (by omega)).trans (by go_simp)
  have k2_1_3 : w2.cell? ⟨w.heap.size + 1, 3, none⟩ = some (.int .i64 0) := (c2 _ _ (by omega)).trans (by go_simp)
  have g2_1_3 : w2.frozen? ⟨w.heap.size + 1, 3, none⟩ = false := (f2 _ _ (by omega)).trans (by go_simp)
  have k2_1_4 : w2.cell? ⟨w.heap.size + 1, 4, none⟩ = some (.int .i64 0) := (c2 _ _ (by omega)).trans (by go_simp)
  have g2_1_4 : w2.frozen? ⟨w.heap.size + 1, 4, none⟩ = false := (f2 _ _ (by omega)).trans (by go_simp)
  have y2_2 : w1.heap.size < w2.heap.size := by omega
  have k2_2_0 : w2.cell? ⟨w1.heap.size, 0, none⟩ = some (.int .i64 R) := (c2 _ _ (by omega)).trans (by go_simp)
  have g2_2_0 : w2.frozen? ⟨w1.heap.size, 0, none⟩ = false := (f2 _ _ (by omega)).trans (by go_simp)
  have k2_2_1 : w2.cell? ⟨w1.heap.size, 1, none⟩ = some (.int .i64 c) := (c2 _ _ (by omega)).trans (by go_simp)
  have g2_2_1 : w2.frozen? ⟨w1.heap.size, 1, none⟩ = false := (f2 _ _ (by omega)).trans (by go_simp)
  have k2_2_2 : w2.cell? ⟨w1.heap.size, 2, none⟩ = some (.int .i64 k) := (c2 _ _ (by omega)).trans (by go_simp)
  have g2_2_2 : w2.frozen? ⟨w1.heap.size, 2, none⟩ = false := (f2 _ _ (by omega)).trans (by go_simp)
  have k2_2_3 : w2.cell? ⟨w1.heap.size, 3, none⟩ = some (.int .i64 l) := (c2 _ _ (by omega)).trans (by go_simp)
  have g2_2_3 : w2.frozen? ⟨w1.heap.size, 3, none⟩ = false := (f2 _ _ (by omega)).trans (by go_simp)
  have k2_2_4 : w2.cell? ⟨w1.heap.size, 4, none⟩ = some (.int .i64 s) := (c2 _ _ (by omega)).trans (by go_simp)
  have g2_2_4 : w2.frozen? ⟨w1.heap.size, 4, none⟩ = false := (f2 _ _ (by omega)).trans (by go_simp)
  clear c2 f2
  go_wp2
  refine bodyPost_ret (v := ctl R R k l s) (by simp [results, Try.results23, go_sem, *]) rfl ⟨rfl, ?_⟩
  repeat (first | with_reducible exact Ext.refl _ | with_reducible assumption | with_reducible refine Ext.alloc ?_ _ | with_reducible refine Ext.drew ?_ | with_reducible refine Ext.drewN ?_ _ | (with_reducible refine Ext.setCell ?_ ?hle _; case hle => (first | (with_reducible exact Nat.le_refl _) | omega | (dsimp only; omega) | (simp only [World.size_alloc]; omega))) | with_reducible refine Ext.trans ?_ (by with_reducible assumption))

set_option maxHeartbeats 400000 in
theorem low_spec_e (c l s p R : Int) (hv : vcB R c R l s = true) (h0 : 0 ≤ p) (hp : p ≤ 9223372036854775807) (H : Hid (rfp p = R)) (hR1 : 1 ≤ R) (hR8 : R ≤ 8) (w : World) :
    Calls Try.prog 23 #[ctl R c R l s, .int .i64 p] w fun e w' => e = .returned (ctl R R R l s) ∧ Ext w w' := by
  go_enter Try.func23, Try.ntmps23
  go_wp2_with fail
  refine (valid_spec _ _ _ _ _ _).mono ?_
  rintro e w1 ⟨rfl, b1⟩
  obtain ⟨c1, f1⟩ := b1.cells
  have z1 := b1.size
  try simp only [World.size_alloc] at c1 f1 z1
  have y1_0 : w.heap.size < w1.heap.size := by omega
  have k1_0_0 : w1.cell? ⟨w.heap.size, 0, none⟩ = some (.int .i64 R) := (c1 _ _ (by omega)).trans (by go_simp)
  have g1_0_0 : w1.frozen? ⟨w.heap.size, 0, none⟩ = false := (f1 _ _ (by omega)).trans (by go_simp)
  have k1_0_1 : w1.cell? ⟨w.heap.size, 1, none⟩ = some (.int .i64 c) := (c1 _ _ (by omega)).trans (by go_simp)
  have g1_0_1 : w1.frozen? ⟨w.heap.size, 1, none⟩ = false := (f1 _ _ (by omega)).trans (by go_simp)
  have k1_0_2 : w1.cell? ⟨w.heap.size, 2, none⟩ = some (.int .i64 R) := (c1 _ _ (by omega)).trans (by go_simp)
  have g1_0_2 : w1.frozen? ⟨w.heap.size, 2, none⟩ = false := (f1 _ _ (by omega)).trans (by go_simp)
  have k1_0_3 : w1.cell? ⟨w.heap.size, 3, none⟩ = some (.int .i64 l) := (c1 _ _ (by omega)).trans (by go_simp)
  have g1_0_3 : w1.frozen? ⟨w.heap.size, 3, none⟩ = false := (f1 _ _ (by omega)).trans (by go_simp)
  have k1_0_4 : w1.cell? ⟨w.heap.size, 4, none⟩ = some (.int .i64 s) := (c1 _ _ (by omega)).trans (by go_simp)
  have g1_0_4 : w1.frozen? ⟨w.heap.size, 4, none⟩ = false := (f1 _ _ (by omega)).trans (by go_simp)
  have y1_1 : w.heap.size + 1 < w1.heap.size := by omega
  have k1_1_0 : w1.cell? ⟨w.heap.size + 1, 0, none⟩ = some (.int .i64 0) := (c1 _ _ (by omega)).trans (by go_simp)
  have g1_1_0 : w1.frozen? ⟨w.heap.size + 1, 0, none⟩ = false := (f1 _ _ (by omega)).trans (by go_simp)
  have k1_1_1 : w1.cell? ⟨w.heap.size + 1, 1, none⟩ = some (.int .i64 0) := (c1 _ _ (by omega)).trans (by go_simp)
  have g1_1_1 : w1.frozen? ⟨w.heap.size + 1, 1, none⟩ = false := (f1 _ _ (by omega)).trans (by go_simp)
  have k1_1_2 : w1.cell? ⟨w.heap.size + 1, 2, none⟩ = some (.int .i64 0) := (c1 _ _ (by omega)).trans (by go_simp)
  have g1_1_2 : w1.frozen? ⟨w.heap.size + 1, 2, none⟩ = false := (f1 _ _ (by omega)).trans (by go_simp)
  have k1_1_3 : w1.cell? ⟨w.heap.size + 1, 3, none⟩ = some (.int .i64 0) := (c1 _ _ (by omega)).trans (by go_simp)
  have g1_1_3 : w1.frozen? ⟨w.heap.size + 1, 3, none⟩ = false := (f1 _ _ (by omega)).trans (by go_simp)
  have k1_1_4 : w1.cell? ⟨w.heap.size + 1, 4, none⟩ = some (.int .i64 0) := (c1 _ _ (by omega)).trans (by go_simp)
  have g1_1_4 : w1.frozen? ⟨w.heap.size + 1, 4, none⟩ = false := (f1 _ _ (by omega)).trans (by go_simp)
  clear c1 f1
  go_wp2_with fail
  refine (rate_spec' H.out h0 hp _).mono ?_
  rintro e w2 ⟨rfl, b2⟩
  obtain ⟨c2, f2⟩ := b2.cells
  have z2 := b2.size
  try simp only [World.size_alloc] at c2 f2 z2
  have y2_0 : w.heap.size < w2.heap.size := by omega
  have k2_0_0 : w2.cell? ⟨w.heap.size, 0, none⟩ = some (.int .i64 R) := (c2 _ _ (by omega)).trans (by go_simp)
  have g2_0_0 : w2.frozen? ⟨w.heap.size, 0, none⟩ = false := (f2 _ _ (by omega)).trans (by go_simp)
  have k2_0_1 : w2.cell? ⟨w.heap.size, 1, none⟩ = some (.int .i64 c) := (c2 _ _ (by omega)).trans (by go_simp)
  have g2_0_1 : w2.frozen? ⟨w.heap.size, 1, none⟩ = false := (f2 _ _ (by omega)).trans (by go_simp)
  have k2_0_2 : w2.cell? ⟨w.heap.size, 2, none⟩ = some (.int .i64 R) := (c2 _ _ (by omega)).trans (by go_simp)
  have g2_0_2 : w2.frozen? ⟨w.heap.size, 2, none⟩ = false := (f2 _ _ (by omega)).trans (by go_simp)
  have k2_0_3 : w2.cell? ⟨w.heap.size, 3, none⟩ = some (.int .i64 l) := (c2 _ _ (by omega)).trans (by go_simp)
  have g2_0_3 : w2.frozen? ⟨w.heap.size, 3, none⟩ = false := (f2 _ _ (by omega)).trans (by go_simp)
  have k2_0_4 : w2.cell? ⟨w.heap.size, 4, none⟩ = some (.int .i64 s) := (c2 _ _ (by omega)).trans (by go_simp)
  have g2_0_4 : w2.frozen? ⟨w.heap.size, 4, none⟩ = false := (f2 _ _ (by omega)).trans (by go_simp)
  have y2_1 : w.heap.size + 1 < w2.heap.size := by omega
  have k2_1_0 : w2.cell? ⟨w.heap.size + 1, 0, none⟩ = some (.int .i64 0) := (c2 _ _ (by omega)).trans (by go_simp)
  have g2_1_0 : w2.frozen? ⟨w.heap.size + 1, 0, none⟩ = false := (f2 _ _ (by omega)).trans (by go_simp)
  have k2_1_1 : w2.cell? ⟨w.heap.size + 1, 1, none⟩ = some (.int .i64 0) := (c2 _ _ (by omega)).trans (by go_simp)
  have g2_1_1 : w2.frozen? ⟨w.heap.size + 1, 1, none⟩ = false := (f2 _ _ (by omega)).trans (by go_simp)
  have k2_1_2 : w2.cell? ⟨w.heap.size + 1, 2, none⟩ = some (.int .i64 0) := (c2 _ _ (by omega)).trans (by go_simp)
  have g2_1_2 : w2.frozen? ⟨w.heap.size + 1, 2, none⟩ = false := (f2 _ _ (by omega)).trans (by go_simp)
  have k2_1_3 : w2.cell? ⟨w.heap.size + 1, 3, none⟩ = some (.int .i64 0) := (c2 _ _ (by omega)).trans (by go_simp)
  have g2_1_3 : w2.frozen? ⟨w.heap.size + 1, 3, none⟩ = false := (f2 _ _ (by omega)).trans (by go_simp)
  have k2_1_4 : w2.cell? ⟨w.heap.size + 1, 4, none⟩ = some (.int .i64 0) := (c2 _ _ (by omega)).trans (by go_simp)
  have g2_1_4 : w2.frozen? ⟨w.heap.size + 1, 4, none⟩ = false := (f2 _ _ (by omega)).trans (by go_simp)
  have y2_2 : w1.heap.size < w2.heap.size := by omega
  have k2_2_0 : w2.cell? ⟨w1.heap.size, 0, none⟩ = some (.int .i64 R) := (c2 _ _ (by omega)).trans (by go_simp)
  have g2_2_0 : w2.frozen? ⟨w1.heap.size, 0, none⟩ = false := (f2 _ _ (by omega)).trans (by go_simp)
  have k2_2_1 : w2.cell? ⟨w1.heap.size, 1, none⟩ = some (.int .i64 c) := (c2 _ _ (by omega)).trans (by go_simp)
  have g2_2_1 : w2.frozen? ⟨w1.heap.size, 1, none⟩ = false := (f2 _ _ (by omega)).trans (by go_simp)
  have k2_2_2 : w2.cell? ⟨w1.heap.size, 2, none⟩ = some (.int .i64 R) := (c2 _ _ (by omega)).trans (by go_simp)
  have g2_2_2 : w2.frozen? ⟨w1.heap.size, 2, none⟩ = false := (f2 _ _ (by omega)).trans (by go_simp)
  have k2_2_3 : w2.cell? ⟨w1.heap.size, 3, none⟩ = some (.int .i64 l) := (c2 _ _ (by omega)).trans (by go_simp)
  have g2_2_3 : w2.frozen? ⟨w1.heap.size, 3, none⟩ = false := (f2 _ _ (by omega)).trans (by go_simp)
  have k2_2_4 : w2.cell? ⟨w1.heap.size, 4, none⟩ = some (.int .i64 s) := (c2 _ _ (by omega)).trans (by go_simp)
  have g2_2_4 : w2.frozen? ⟨w1.heap.size, 4, none⟩ = false := (f2 _ _ (by omega)).trans (by go_simp)
  clear c2 f2
  go_wp2
  refine bodyPost_ret (v := ctl R R R l s) (by simp [results, Try.results23, go_sem, *]) rfl ⟨rfl, ?_⟩
  repeat (first | with_reducible exact Ext.refl _ | with_reducible assumption | with_reducible refine Ext.alloc ?_ _ | with_reducible refine Ext.drew ?_ | with_reducible refine Ext.drewN ?_ _ | (with_reducible refine Ext.setCell ?_ ?hle _; case hle => (first | (with_reducible exact Nat.le_refl _) | omega | (dsimp only; omega) | (simp only [World.size_alloc]; omega))) | with_reducible refine Ext.trans ?_ (by with_reducible assumption))

set_option maxHeartbeats 400000 in
theorem low_spec_f (r c k l s p R : Int) (hv : vcB r c k l s = true) (h0 : 0 ≤ p) (hp : p ≤ 9223372036854775807) (H : Hid (rfp p = R)) (hR1 : 1 ≤ R) (hR8 : R ≤ 8) (g1 : R < r) (g2 : k < R) (w : World) :
    Calls Try.prog 23 #[ctl r c k l s, .int .i64 p] w fun e w' => e = .returned (ctl R R k l s) ∧ Ext w w' := by
  go_enter Try.func23, Try.ntmps23
  go_wp2_with fail
  refine (valid_spec _ _ _ _ _ _).mono ?_
  rintro e w1 ⟨rfl, b1⟩
  obtain ⟨c1, f1⟩ := b1.cells
  have z1 := b1.size
  try simp only [World.size_alloc] at c1 f1 z1
  have y1_0 : w.heap.size < w1.heap.size := by omega
  have k1_0_0 : w1.cell? ⟨w.heap.size, 0, none⟩ = some (.int .i64 r) := (c1 _ _ (by omega)).trans (by go_simp)
  have g1_0_0 : w1.frozen? ⟨w.heap.size, 0, none⟩ = false := (f1 _ _ (by omega)).trans (by go_simp)
  have k1_0_1 : w1.cell? ⟨w.heap.size, 1, none⟩ = some (.int .i64 c) := (c1 _ _ (by omega)).trans (by go_simp)
  have g1_0_1 : w1.frozen? ⟨w.heap.size, 1, none⟩ = false := (f1 _ _ (by omega)).trans (by go_simp)
  have k1_0_2 : w1.cell? ⟨w.heap.size, 2, none⟩ = some (.int .i64 k) := (c1 _ _ (by omega)).trans (by go_simp)
  have g1_0_2 : w1.frozen? ⟨w.heap.size, 2, none⟩ = false := (f1 _ _ (by omega)).trans (by go_simp)
  have k1_0_3 : w1.cell? ⟨w.heap.size, 3, none⟩ = some (.int .i64 l) := (c1 _ _ (by omega)).trans (by go_simp)
  have g1_0_3 : w1.frozen? ⟨w.heap.size, 3, none⟩ = false := (f1 _ _ (by omega)).trans (by go_simp)
  have k1_0_4 : w1.cell? ⟨w.heap.size, 4, none⟩ = some (.int .i64 s) := (c1 _ _ (by omega)).trans (by go_simp)
  have g1_0_4 : w1.frozen? ⟨w.heap.size, 4, none⟩ = false := (f1 _ _ (by omega)).trans (by go_simp)
  have y1_1 : w.heap.size + 1 < w1.heap.size := by omega
  have k1_1_0 : w1.cell? ⟨w.heap.size + 1, 0, none⟩ = some (.int .i64 0) := (c1 _ _ (by omega)).trans (by go_simp)
  have g1_1_0 : w1.frozen? ⟨w.heap.size + 1, 0, none⟩ = false := (f1 _ _ (by omega)).trans (by go_simp)
  have k1_1_1 : w1.cell? ⟨w.heap.size + 1, 1, none⟩ = some (.int .i64 0) := (c1 _ _ (by omega)).trans (by go_simp)
  have g1_1_1 : w1.frozen? ⟨w.heap.size + 1, 1, none⟩ = false := (f1 _ _ (by omega)).trans (by go_simp)
  have k1_1_2 : w1.cell? ⟨w.heap.size + 1, 2, none⟩ = some (.int .i64 0) := (c1 _ _ (by omega)).trans (by go_simp)
  have g1_1_2 : w1.frozen? ⟨w.heap.size + 1, 2, none⟩ = false := (f1 _ _ (by omega)).trans (by go_simp)
  have k1_1_3 : w1.cell? ⟨w.heap.size + 1, 3, none⟩ = some (.int .i64 0) := (c1 _ _ (by omega)).trans (by go_simp)
  have g1_1_3 : w1.frozen? ⟨w.heap.size + 1, 3, none⟩ = false := (f1 _ _ (by omega)).trans (by go_simp)
  have k1_1_4 : w1.cell? ⟨w.heap.size + 1, 4, none⟩ = some (.int .i64 0) := (c1 _ _ (by omega)).trans (by go_simp)
  have g1_1_4 : w1.frozen? ⟨w.heap.size + 1, 4, none⟩ = false := (f1 _ _ (by omega)).trans (by go_simp)
  clear c1 f1
  go_wp2_with fail
  refine (rate_spec' H.out h0 hp _).mono ?_
  rintro e w2 ⟨rfl, b2⟩
  obtain ⟨c2, f2⟩ := b2.cells
  have z2 := b2.size
  try simp only [World.size_alloc] at c2 f2 z2
  have y2_0 : w.heap.size < w2.heap.size := by omega
  have k2_0_0 : w2.cell? ⟨w.heap.size, 0, none⟩ = some (.int .i64 r) := (c2 _ _ (by omega)).trans (by go_simp)
  have g2_0_0 : w2.frozen? ⟨w.heap.size, 0, none⟩ = false := (f2 _ _ (by omega)).trans (by go_simp)
  have k2_0_1 : w2.cell? ⟨w.heap.size, 1, none⟩ = some (.int .i64 c) := (c2 _ _ (by omega)).trans (by go_simp)
  have g2_0_1 : w2.frozen? ⟨w.heap.size, 1, none⟩ = false := (f2 _ _ (by omega)).trans (by go_simp)
  have k2_0_2 : w2.cell? ⟨w.heap.size, 2, none⟩ = some (.int .i64 k) := (c2 _ _ (by omega)).trans (by go_simp)
  have g2_0_2 : w2.frozen? ⟨w.heap.size, 2, none⟩ = false := (f2 _ _ (by omega)).trans (by go_simp)
  have k2_0_3 : w2.cell? ⟨w.heap.size, 3, none⟩ = some (.int .i64 l) := (c2 _ _ (by omega)).trans (by go_simp)
  have g2_0_3 : w2.frozen? ⟨w.heap.size, 3, none⟩ = false := (f2 _ _ (by omega)).trans (by go_simp)
  have k2_0_4 : w2.cell? ⟨w.heap.size, 4, none⟩ = some (.int .i64 s) := (c2 _ _ (by omega)).trans (by go_simp)
  have g2_0_4 : w2.frozen? ⟨w.heap.size, 4, none⟩ = false := (f2 _ _ (by omega)).trans (by go_simp)
  have y2_1 : w.heap.size + 1 < w2.heap.size := by omega
  have k2_1_0 : w2.cell? ⟨w.heap.size + 1, 0, none⟩ = some (.int .i64 0) := (c2 _ _ (by omega)).trans (by go_simp)
  have g2_1_0 : w2.frozen? ⟨w.heap.size + 1, 0, none⟩ = false := (f2 _ _ (by omega)).trans (by go_simp)
  have k2_1_1 : w2.cell? ⟨w.heap.size + 1, 1, none⟩ = some (.int .i64 0) := (c2 _ _ (by omega)).trans (by go_simp)
  have g2_1_1 : w2.frozen? ⟨w.heap.size + 1, 1, none⟩ = false := (f2 _ _ (by omega)).trans (by go_simp)
  have k2_1_2 : w2.cell? ⟨w.heap.size + 1, 2, none⟩ = some (.int .i64 0) := (c2 _ _ (by omega)).trans (by go_simp)
  have g2_1_2 : w2.frozen? ⟨w.heap.size + 1, 2, none⟩ = false := (f2 _ _ (by omega)).trans (by go_simp)
  have k2_1_3 : w2.cell? ⟨w.heap.size + 1, 3, none⟩ = some (.int .i64 0) := (c2 _ _ (by omega)).trans (by go_simp)
  have g2_1_3 : w2.frozen? ⟨w.heap.size + 1, 3, none⟩ = false := (f2 _ _ (by omega)).trans (by go_simp)
  have k2_1_4 : w2.cell? ⟨w.heap.size + 1, 4, none⟩ = some (.int .i64 0) := (c2 _ _ (by omega)).trans (by go_simp)
  have g2_1_4 : w2.frozen? ⟨w.heap.size + 1, 4, none⟩ = false := (f2 _ _ (by omega)).trans (by go_simp)
  have y2_2 : w1.heap.size < w2.heap.size := by omega
  have k2_2_0 : w2.cell? ⟨w1.heap.size, 0, none⟩ = some (.int .i64 r) := (c2 _ _ (by omega)).trans (by go_simp)
  have g2_2_0 : w2.frozen? ⟨w1.heap.size, 0, none⟩ = false := (f2 _ _ (by omega)).trans (by go_simp)
  have k2_2_1 : w2.cell? ⟨w1.heap.size, 1, none⟩ = some (.int .i64 c) := (c2 _ _ (by omega)).trans (by go_simp)
  have g2_2_1 : w2.frozen? ⟨w1.heap.size, 1, none⟩ = false := (f2 _ _ (by omega)).trans (by go_simp)
  have k2_2_2 : w2.cell? ⟨w1.heap.size, 2, none⟩ = some (.int .i64 k) := (c2 _ _ (by omega)).trans (by go_simp)
  have g2_2_2 : w2.frozen? ⟨w1.heap.size, 2, none⟩ = false := (f2 _ _ (by omega)).trans (by go_simp)
  have k2_2_3 : w2.cell? ⟨w1.heap.size, 3, none⟩ = some (.int .i64 l) := (c2 _ _ (by omega)).trans (by go_simp)
  have g2_2_3 : w2.frozen? ⟨w1.heap.size, 3, none⟩ = false := (f2 _ _ (by omega)).trans (by go_simp)
  have k2_2_4 : w2.cell? ⟨w1.heap.size, 4, none⟩ = some (.int .i64 s) := (c2 _ _ (by omega)).trans (by go_simp)
  have g2_2_4 : w2.frozen? ⟨w1.heap.size, 4, none⟩ = false := (f2 _ _ (by omega)).trans (by go_simp)
  clear c2 f2
  go_wp2
  refine bodyPost_ret (v := ctl R R k l s) (by simp [results, Try.results23, go_sem, *]) rfl ⟨rfl, ?_⟩
  repeat (first | with_reducible exact Ext.refl _ | with_reducible assumption | with_reducible refine Ext.alloc ?_ _ | with_reducible refine Ext.drew ?_ | with_reducible refine Ext.drewN ?_ _ | (with_reducible refine Ext.setCell ?_ ?hle _; case hle => (first | (with_reducible exact Nat.le_refl _) | omega | (dsimp only; omega) | (simp only [World.size_alloc]; omega))) | with_reducible refine Ext.trans ?_ (by with_reducible assumption))

set_option maxHeartbeats 400000 in
theorem low_spec_g (r c l s p R : Int) (hv : vcB r c R l s = true) (h0 : 0 ≤ p) (hp : p ≤ 9223372036854775807) (H : Hid (rfp p = R)) (hR1 : 1 ≤ R) (hR8 : R ≤ 8) (g1 : R < r) (w : World) :
    Calls Try.prog 23 #[ctl r c R l s, .int .i64 p] w fun e w' => e = .returned (ctl R R R l s) ∧ Ext w w' := by
  go_enter Try.func23, Try.ntmps23
  go_wp2_with fail
  refine (valid_spec _ _ _ _ _ _).mono ?_
  rintro e w1 ⟨rfl, b1⟩
  obtain ⟨c1, f1⟩ := b1.cells
  have z1 := b1.size
  try simp only [World.size_alloc] at c1 f1 z1
  have y1_0 : w.heap.size < w1.heap.size := by omega
  have k1_0_0 : w1.cell? ⟨w.heap.size, 0, none⟩ = some (.int .i64 r) := (c1 _ _ (by omega)).trans (by go_simp)
  have g1_0_0 : w1.frozen? ⟨w.heap.size, 0, none⟩ = false := (f1 _ _ (by omega)).trans (by go_simp)
  have k1_0_1 : w1.cell? ⟨w.heap.size, 1, none⟩ = some (.int .i64 c) := (c1 _ _ (by omega)).trans (by go_simp)
  have g1_0_1 : w1.frozen? ⟨w.heap.size, 1, none⟩ = false := (f1 _ _ (by omega)).trans (by go_simp)
  have k1_0_2 : w1.cell? ⟨w.heap.size, 2, none⟩ = some (.int .i64 R) := (c1 _ _ (by omega)).trans (by go_simp)
  have g1_0_2 : w1.frozen? ⟨w.heap.size, 2, none⟩ = false := (f1 _ _ (by omega)).trans (by go_simp)
  have k1_0_3 : w1.cell? ⟨w.heap.size, 3, none⟩ = some (.int .i64 l) := (c1 _ _ (by omega)).trans (by go_simp)
  have g1_0_3 : w1.frozen? ⟨w.heap.size, 3, none⟩ = false := (f1 _ _ (by omega)).trans (by go_simp)
  have k1_0_4 : w1.cell? ⟨w.heap.size, 4, none⟩ = some (.int .i64 s) := (c1 _ _ (by omega)).trans (by go_simp)
  have g1_0_4 : w1.frozen? ⟨w.heap.size, 4, none⟩ = false := (f1 _ _ (by omega)).trans (by go_simp)
  have y1_1 : w.heap.size + 1 < w1.heap.size := by omega
  have k1_1_0 : w1.cell? ⟨w.heap.size + 1, 0, none⟩ = some (.int .i64 0) := (c1 _ _ (by omega)).trans (by go_simp)
  have g1_1_0 : w1.frozen? ⟨w.heap.size + 1, 0, none⟩ = false := (f1 _ _ (by omega)).trans (by go_simp)
  have k1_1_1 : w1.cell? ⟨w.heap.size + 1, 1, none⟩ = some (.int .i64 0) := (c1 _ _ (by omega)).trans (by go_simp)
  have g1_1_1 : w1.frozen? ⟨w.heap.size + 1, 1, none⟩ = false := (f1 _ _ (by omega)).trans (by go_simp)
  have k1_1_2 : w1.cell? ⟨w.heap.size + 1, 2, none⟩ = some (.int .i64 0) := (c1 _ _ (by omega)).trans (by go_simp)
  have g1_1_2 : w1.frozen? ⟨w.heap.size + 1, 2, none⟩ = false := (f1 _ _ (by omega)).trans (by go_simp)
  have k1_1_3 : w1.cell? ⟨w.heap.size + 1, 3, none⟩ = some (.int .i64 0) := (c1 _ _ (by omega)).trans (by go_simp)
  have g1_1_3 : w1.frozen? ⟨w.heap.size + 1, 3, none⟩ = false := (f1 _ _ (by omega)).trans (by go_simp)
  have k1_1_4 : w1.cell? ⟨w.heap.size + 1, 4, none⟩ = some (.int .i64 0) := (c1 _ _ (by omega)).trans (by go_simp)
  have g1_1_4 : w1.frozen? ⟨w.heap.size + 1, 4, none⟩ = false := (f1 _ _ (by omega)).trans (by go_simp)
  clear c1 f1
  go_wp2_with fail
  refine (rate_spec' H.out h0 hp _).mono ?_
  rintro e w2 ⟨rfl, b2⟩
  obtain ⟨c2, f2⟩ := b2.cells
  have z2 := b2.size
  try simp only [World.size_alloc] at c2 f2 z2
  have y2_0 : w.heap.size < w2.heap.size := by omega
  have k2_0_0 : w2.cell? ⟨w.heap.size, 0, none⟩ = some (.int .i64 r) := (c2 _ _ (by omega)).trans (by go_simp)
  have g2_0_0 : w2.frozen? ⟨w.heap.size, 0, none⟩ = false := (f2 _ _ (by omega)).trans (by go_simp)
  have k2_0_1 : w2.cell? ⟨w.heap.size, 1, none⟩ = some (.int .i64 c) := (c2 _ _ (by omega)).trans (by go_simp)
  have g2_0_1 : w2.frozen? ⟨w.heap.size, 1, none⟩ = false := (f2 _ _ (by omega)).trans (by go_simp)
  have k2_0_2 : w2.cell? ⟨w.heap.size, 2, none⟩ = some (.int .i64 R) := (c2 _ _ (by omega)).trans (by go_simp)
  have g2_0_2 : w2.frozen? ⟨w.heap.size, 2, none⟩ = false := (f2 _ _ (by omega)).trans (by go_simp)
  have k2_0_3 : w2.cell? ⟨w.heap.size, 3, none⟩ = some (.int .i64 l) := (c2 _ _ (by omega)).trans (by go_simp)
  have g2_0_3 : w2.frozen? ⟨w.heap.size, 3, none⟩ = false := (f2 _ _ (by omega)).trans (by go_simp)
  have k2_0_4 : w2.cell? ⟨w.heap.size, 4, none⟩ = some (.int .i64 s) := (c2 _ _ (by omega)).trans (by go_simp)
  have g2_0_4 : w2.frozen? ⟨w.heap.size, 4, none⟩ = false := (f2 _ _ (by omega)).trans (by go_simp)
  have y2_1 : w.heap.size + 1 < w2.heap.size := by omega
  have k2_1_0 : w2.cell? ⟨w.heap.size + 1, 0, none⟩ = some (.int .i64 0) := (c2 _ _ (by omega)).trans (by go_simp)
  have g2_1_0 : w2.frozen? ⟨w.heap.size + 1, 0, none⟩ = false := (f2 _ _ (by omega)).trans (by go_simp)
  have k2_1_1 : w2.cell? ⟨w.heap.size + 1, 1, none⟩ = some (.int .i64 0) := (c2 _ _ (by omega)).trans (by go_simp)
  have g2_1_1 : w2.frozen? ⟨w.heap.size + 1, 1, none⟩ = false := (f2 _ _ (by omega)).trans (by go_simp)
  have k2_1_2 : w2.cell? ⟨w.heap.size + 1, 2, none⟩ = some (.int .i64 0) := (c2 _ _ (by omega)).trans (by go_simp)
  have g2_1_2 : w2.frozen? ⟨w.heap.size + 1, 2, none⟩ = false := (f2 _ _ (by omega)).trans (by go_simp)
  have k2_1_3 : w2.cell? ⟨w.heap.size + 1, 3, none⟩ = some (.int .i64 0) := (c2 _ _ (by omega)).trans (by go_simp)
  have g2_1_3 : w2.frozen? ⟨w.heap.size + 1, 3, none⟩ = false := (f2 _ _ (by omega)).trans (by go_simp)
  have k2_1_4 : w2.cell? ⟨w.heap.size + 1, 4, none⟩ = some (.int .i64 0) := (c2 _ _ (by omega)).trans (by go_simp)
  have g2_1_4 : w2.frozen? ⟨w.heap.size + 1, 4, none⟩ = false := (f2 _ _ (by omega)).trans (by go_simp)
  have y2_2 : w1.heap.size < w2.heap.size := by omega
  have k2_2_0 : w2.cell? ⟨w1.heap.size, 0, none⟩ = some (.int .i64 r) := (c2 _ _ (by omega)).trans (by go_simp)
  have g2_2_0 : w2.frozen? ⟨w1.heap.size, 0, none⟩ = false := (f2 _ _ (by omega)).trans (by go_simp)
  have k2_2_1 : w2.cell? ⟨w1.heap.size, 1, none⟩ = some (.int .i64 c) := (c2 _ _ (by omega)).trans (by go_simp)
  have g2_2_1 : w2.frozen? ⟨w1.heap.size, 1, none⟩ = false := (f2 _ _ (by omega)).trans (by go_simp)
  have k2_2_2 : w2.cell? ⟨w1.heap.size, 2, none⟩ = some (.int .i64 R) := (c2 _ _ (by omega)).trans (by go_simp)
  have g2_2_2 : w2.frozen? ⟨w1.heap.size, 2, none⟩ = false := (f2 _ _ (by omega)).trans (by go_simp)
  have k2_2_3 : w2.cell? ⟨w1.heap.size, 3, none⟩ = some (.int .i64 l) := (c2 _ _ (by omega)).trans (by go_simp)
  have g2_2_3 : w2.frozen? ⟨w1.heap.size, 3, none⟩ = false := (f2 _ _ (by omega)).trans (by go_simp)
  have k2_2_4 : w2.cell? ⟨w1.heap.size, 4, none⟩ = some (.int .i64 s) := (c2 _ _ (by omega)).trans (by go_simp)
  have g2_2_4 : w2.frozen? ⟨w1.heap.size, 4, none⟩ = false := (f2 _ _ (by omega)).trans (by go_simp)
  clear c2 f2
  go_wp2
  refine bodyPost_ret (v := ctl R R R l s) (by simp [results, Try.results23, go_sem, *]) rfl ⟨rfl, ?_⟩
  repeat (first | with_reducible exact Ext.refl _ | with_reducible assumption | with_reducible refine Ext.alloc ?_ _ | with_reducible refine Ext.drew ?_ | with_reducible refine Ext.drewN ?_ _ | (with_reducible refine Ext.setCell ?_ ?hle _; case hle => (first | (with_reducible exact Nat.le_refl _) | omega | (dsimp only; omega) | (simp only [World.size_alloc]; omega))) | with_reducible refine Ext.trans ?_ (by with_reducible assumption))

set_option maxHeartbeats 400000 in
theorem low_spec_h (r c k l s p R : Int) (hv : vcB r c k l s = true) (h0 : 0 ≤ p) (hp : p ≤ 9223372036854775807) (H : Hid (rfp p = R)) (hR1 : 1 ≤ R) (hR8 : R ≤ 8) (g1 : R < r) (g2 : R < k) (w : World) :
    Calls Try.prog 23 #[ctl r c k l s, .int .i64 p] w fun e w' => e = .returned (ctl R R R l s) ∧ Ext w w' := by
  go_enter Try.func23, Try.ntmps23
  go_wp2_with fail
  refine (valid_spec _ _ _ _ _ _).mono ?_
  rintro e w1 ⟨rfl, b1⟩
  obtain ⟨c1, f1⟩ := b1.cells
  have z1 := b1.size
  try simp only [World.size_alloc] at c1 f1 z1
  have y1_0 : w.heap.size < w1.heap.size := by omega
  have k1_0_0 : w1.cell? ⟨w.heap.size, 0, none⟩ = some (.int .i64 r) := (c1 _ _ (by omega)).trans (by go_simp)
  have g1_0_0 : w1.frozen? ⟨w.heap.size, 0, none⟩ = false := (f1 _ _ (by omega)).trans (by go_simp)
  have k1_0_1 : w1.cell? ⟨w.heap.size, 1, none⟩ = some (.int .i64 c) := (c1 _ _ (by omega)).trans (by go_simp)
  have g1_0_1 : w1.frozen? ⟨w.heap.size, 1, none⟩ = false := (f1 _ _ (by omega)).trans (by go_simp)
  have k1_0_2 : w1.cell? ⟨w.heap.size, 2, none⟩ = some (.int .i64 k) := (c1 _ _ (by omega)).trans (by go_simp)
  have g1_0_2 : w1.frozen? ⟨w.heap.size, 2, none⟩ = false := (f1 _ _ (by omega)).trans (by go_simp)
  have k1_0_3 : w1.cell? ⟨w.heap.size, 3, none⟩ = some (.int .i64 l) := (c1 _ _ (by omega)).trans (by go_simp)
  have g1_0_3 : w1.frozen? ⟨w.heap.size, 3, none⟩ = false := (f1 _ _ (by omega)).trans (by go_simp)
  have k1_0_4 : w1.cell? ⟨w.heap.size, 4, none⟩ = some (.int .i64 s) := (c1 _ _ (by omega)).trans (by go_simp)
  have g1_0_4 : w1.frozen? ⟨w.heap.size, 4, none⟩ = false := (f1 _ _ (by omega)).trans (by go_simp)
  have y1_1 : w.heap.size + 1 < w1.heap.size := by omega
  have k1_1_0 : w1.cell? ⟨w.heap.size + 1, 0, none⟩ = some (.int .i64 0) := (c1 _ _ (by omega)).trans (by go_simp)
  have g1_1_0 : w1.frozen? ⟨w.heap.size + 1, 0, none⟩ = false := (f1 _ _ (by omega)).trans (by go_simp)
  have k1_1_1 : w1.cell? ⟨w.heap.size + 1, 1, none⟩ = some (.int .i64 0) := (c1 _ _ (by omega)).trans (by go_simp)
  have g1_1_1 : w1.frozen? ⟨w.heap.size + 1, 1, none⟩ = false := (f1 _ _ (by omega)).trans (by go_simp)
  have k1_1_2 : w1.cell? ⟨w.heap.size + 1, 2, none⟩ = some (.int .i64 0) := (c1 _ _ (by omega)).trans (by go_simp)
  have g1_1_2 : w1.frozen? ⟨w.heap.size + 1, 2, none⟩ = false := (f1 _ _ (by omega)).trans (by go_simp)
  have k1_1_3 : w1.cell? ⟨w.heap.size + 1, 3, none⟩ = some (.int .i64 0) := (c1 _ _ (by omega)).trans (by go_simp)
  have g1_1_3 : w1.frozen? ⟨w.heap.size + 1, 3, none⟩ = false := (f1 _ _ (by omega)).trans (by go_simp)
  have k1_1_4 : w1.cell? ⟨w.heap.size + 1, 4, none⟩ = some (.int .i64 0) := (c1 _ _ (by omega)).trans (by go_simp)
  have g1_1_4 : w1.frozen? ⟨w.heap.size + 1, 4, none⟩ = false := (f1 _ _ (by omega)).trans (by go_simp)
  clear c1 f1
  go_wp2_with fail
  refine (rate_spec' H.out h0 hp _).mono ?_
  rintro e w2 ⟨rfl, b2⟩
  obtain ⟨c2, f2⟩ := b2.cells
  have z2 := b2.size
  try simp only [World.size_alloc] at c2 f2 z2
  have y2_0 : w.heap.size < w2.heap.size := by omega
  have k2_0_0 : w2.cell? ⟨w.heap.size, 0, none⟩ = some (.int .i64 r) := (c2 _ _ (by omega)).trans (by go_simp)
  have g2_0_0 : w2.frozen? ⟨w.heap.size, 0, none⟩ = false := (f2 _ _ (by omega)).trans (by go_simp)
  have k2_0_1 : w2.cell? ⟨w.heap.size, 1, none⟩ = some (.int .i64 c) := (c2 _ _ (by omega)).trans (by go_simp)
  have g2_0_1 : w2.frozen? ⟨w.heap.size, 1, none⟩ = false := (f2 _ _ (by omega)).trans (by go_simp)
  have k2_0_2 : w2.cell? ⟨w.heap.size, 2, none⟩ = some (.int .i64 k) := (c2 _ _ (by omega)).trans (by go_simp)
  have g2_0_2 : w2.frozen? ⟨w.heap.size, 2, none⟩ = false := (f2 _ _ (by omega)).trans (by go_simp)
  have k2_0_3 : w2.cell? ⟨w.heap.size, 3, none⟩ = some (.int .i64 l) := (c2 _ _ (by omega)).trans (by go_simp)
  have g2_0_3 : w2.frozen? ⟨w.heap.size, 3, none⟩ = false := (f2 _ _ (by omega)).trans (by go_simp)
  have k2_0_4 : w2.cell? ⟨w.heap.size, 4, none⟩ = some (.int .i64 s) := (c2 _ _ (by omega)).trans (by go_simp)
  have g2_0_4 : w2.frozen? ⟨w.heap.size, 4, none⟩ = false := (f2 _ _ (by omega)).trans (by go_simp)
  have y2_1 : w.heap.size + 1 < w2.heap.size := by omega
  have k2_1_0 : w2.cell? ⟨w.heap.size + 1, 0, none⟩ = some (.int .i64 0) := (c2 _ _ (by omega)).trans (by go_simp)
  have g2_1_0 : w2.frozen? ⟨w.heap.size + 1, 0, none⟩ = false := (f2 _ _ (by omega)).trans (by go_simp)
  have k2_1_1 : w2.cell? ⟨w.heap.size + 1, 1, none⟩ = some (.int .i64 0) := (c2 _ _ (by omega)).trans (by go_simp)
  have g2_1_1 : w2.frozen? ⟨w.heap.size + 1, 1, none⟩ = false := (f2 _ _ (by omega)).trans (by go_simp)
  have k2_1_2 : w2.cell? ⟨w.heap.size + 1, 2, none⟩ = some (.int .i64 0) := (c2 _ _ (by omega)).trans (by go_simp)
  have g2_1_2 : w2.frozen? ⟨w.heap.size + 1, 2, none⟩ = false := (f2 _ _ (by omega)).trans (by go_simp)
  have k2_1_3 : w2.cell? ⟨w.heap.size + 1, 3, none⟩ = some (.int .i64 0) := (c2 _ _ (by omega)).trans (by go_simp)
  have g2_1_3 : w2.frozen? ⟨w.heap.size + 1, 3, none⟩ = false := (f2 _ _ (by omega)).trans (by go_simp)
  have k2_1_4 : w2.cell? ⟨w.heap.size + 1, 4, none⟩ = some (.int .i64 0) := (c2 _ _ (by omega)).trans (by go_simp)
  have g2_1_4 : w2.frozen? ⟨w.heap.size + 1, 4, none⟩ = false := (f2 _ _ (by omega)).trans (by go_simp)
  have y2_2 : w1.heap.size < w2.heap.size := by omega
  have k2_2_0 : w2.cell? ⟨w1.heap.size, 0, none⟩ = some (.int .i64 r) := (c2 _ _ (by omega)).trans (by go_simp)
  have g2_2_0 : w2.frozen? ⟨w1.heap.size, 0, none⟩ = false := (f2 _ _ (by omega)).trans (by go_simp)
  have k2_2_1 : w2.cell? ⟨w1.heap.size, 1, none⟩ = some (.int .i64 c) := (c2 _ _ (by omega)).trans (by go_simp)
  have g2_2_1 : w2.frozen? ⟨w1.heap.size, 1, none⟩ = false := (f2 _ _ (by omega)).trans (by go_simp)
  have k2_2_2 : w2.cell? ⟨w1.heap.size, 2, none⟩ = some (.int .i64 k) := (c2 _ _ (by omega)).trans (by go_simp)
  have g2_2_2 : w2.frozen? ⟨w1.heap.size, 2, none⟩ = false := (f2 _ _ (by omega)).trans (by go_simp)
  have k2_2_3 : w2.cell? ⟨w1.heap.size, 3, none⟩ = some (.int .i64 l) := (c2 _ _ (by omega)).trans (by go_simp)
  have g2_2_3 : w2.frozen? ⟨w1.heap.size, 3, none⟩ = false := (f2 _ _ (by omega)).trans (by go_simp)
  have k2_2_4 : w2.cell? ⟨w1.heap.size, 4, none⟩ = some (.int .i64 s) := (c2 _ _ (by omega)).trans (by go_simp)
  have g2_2_4 : w2.frozen? ⟨w1.heap.size, 4, none⟩ = false := (f2 _ _ (by omega)).trans (by go_simp)
  clear c2 f2
  go_wp2
  refine bodyPost_ret (v := ctl R R R l s) (by simp [results, Try.results23, go_sem, *]) rfl ⟨rfl, ?_⟩
  repeat (first | with_reducible exact Ext.refl _ | with_reducible assumption | with_reducible refine Ext.alloc ?_ _ | with_reducible refine Ext.drew ?_ | with_reducible refine Ext.drewN ?_ _ | (with_reducible refine Ext.setCell ?_ ?hle _; case hle => (first | (with_reducible exact Nat.le_refl _) | omega | (dsimp only; omega) | (simp only [World.size_alloc]; omega))) | with_reducible refine Ext.trans ?_ (by with_reducible assumption))

theorem low_impl (r c k l s p : Int) (hp : p ≤ 9223372036854775807) (w : World) :
    Calls Try.prog 24 #[ctl r c k l s, .int .i64 p] w fun e w' => e = .returned (lcv r c k l s p) ∧ Ext w w' := by
  by_cases hv : vcB r c k l s = true
  case neg =>
    have hv' : vcB r c k l s = false := by simpa using hv
    rw [show lcv r c k l s p = ctl r c k l s by simp [lcv, hv']]
    exact low_impl_a r c k l s p hv' w
  obtain ⟨v1, v2, v3, v4, v5, v6, v7, v8, v9, v10⟩ := vc_of hv
  by_cases h0 : 0 ≤ p
  case neg =>
    rw [show lcv r c k l s p = ctl r c k l s by simp [lcv, h0]]
    exact low_impl_b r c k l s p hv (by omega) w
  obtain ⟨q1, q2⟩ := rfp_bd h0
  rw [show lcv r c k l s p = ctl (min r (rfp p)) (rfp p) (min k (rfp p)) l s by simp [lcv, hv, h0]]
  generalize hR : rfp p = R at q1 q2
  have H := Lib.hid hR
  rcases Int.lt_trichotomy r R with g1 | g1 | g1
  · rw [show min r R = r by omega, show min k R = k by omega]
    exact low_impl_c r c k l s p R hv h0 hp H q1 q2 g1 (by omega) w
  · subst g1
    rcases Int.lt_trichotomy k r with g2 | g2 | g2
    · rw [show min r r = r by omega, show min k r = k by omega]
      exact low_impl_d c k l s p r hv h0 hp H q1 q2 g2 w
    · subst g2
      rw [show min k k = k by omega]
      exact low_impl_e c l s p k hv h0 hp H q1 q2 w
    · omega
  · rcases Int.lt_trichotomy k R with g2 | g2 | g2
    · rw [show min r R = R by omega, show min k R = k by omega]
      exact low_impl_f r c k l s p R hv h0 hp H q1 q2 g1 g2 w
    · subst g2
      rw [show min r k = k by omega, show min k k = k by omega]
      exact low_impl_g r c l s p k hv h0 hp H q1 q2 g1 w
    · rw [show min r R = R by omega, show min k R = R by omega]
      exact low_impl_h r c k l s p R hv h0 hp H q1 q2 g1 g2 w

theorem low_spec (r c k l s p : Int) (hp : p ≤ 9223372036854775807) (w : World) :
    Calls Try.prog 23 #[ctl r c k l s, .int .i64 p] w fun e w' => e = .returned (lcv r c k l s p) ∧ Ext w w' := by
  by_cases hv : vcB r c k l s = true
  case neg =>
    have hv' : vcB r c k l s = false := by simpa using hv
    rw [show lcv r c k l s p = ctl r c k l s by simp [lcv, hv']]
    exact low_spec_a r c k l s p hv' w
  obtain ⟨v1, v2, v3, v4, v5, v6, v7, v8, v9, v10⟩ := vc_of hv
  by_cases h0 : 0 ≤ p
  case neg =>
    rw [show lcv r c k l s p = ctl r c k l s by simp [lcv, h0]]
    exact low_spec_b r c k l s p hv (by omega) w
  obtain ⟨q1, q2⟩ := rfp_bd h0
  rw [show lcv r c k l s p = ctl (min r (rfp p)) (rfp p) (min k (rfp p)) l s by simp [lcv, hv, h0]]
  generalize hR : rfp p = R at q1 q2
  have H := Lib.hid hR
  rcases Int.lt_trichotomy r R with g1 | g1 | g1
  · rw [show min r R = r by omega, show min k R = k by omega]
    exact low_spec_c r c k l s p R hv h0 hp H q1 q2 g1 (by omega) w
  · subst g1
    rcases Int.lt_trichotomy k r with g2 | g2 | g2
    · rw [show min r r = r by omega, show min k r = k by omega]
      exact low_spec_d c k l s p r hv h0 hp H q1 q2 g2 w
    · subst g2
      rw [show min k k = k by omega]
      exact low_spec_e c l s p k hv h0 hp H q1 q2 w
    · omega
  · rcases Int.lt_trichotomy k R with g2 | g2 | g2
    · rw [show min r R = R by omega, show min k R = k by omega]
      exact low_spec_f r c k l s p R hv h0 hp H q1 q2 g1 g2 w
    · subst g2
      rw [show min r k = k by omega, show min k k = k by omega]
      exact low_spec_g r c l s p k hv h0 hp H q1 q2 g1 w
    · rw [show min r R = R by omega, show min k R = R by omega]
      exact low_spec_h r c k l s p R hv h0 hp H q1 q2 g1 g2 w

end Go.Proofs.Ytdekbjaejlhkcaa
