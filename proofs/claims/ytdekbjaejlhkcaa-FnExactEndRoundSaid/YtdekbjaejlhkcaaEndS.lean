/-
  EndRound of the reference, case by case.
-/
import Derived.Test.YtdekbjaejlhkcaaOpenCtl
namespace Go.Proofs.Ytdekbjaejlhkcaa
open Go.ChangeShapes Go.WideShapes Go.ChangeAt Go.RowKit
set_option linter.unusedVariables false

set_option maxHeartbeats 400000 in
theorem end_spec_a (r c k l s m : Int) (hv : vcB r c k l s = false) (w : World) :
    Calls Try.prog 25 #[ctl r c k l s, .int .i64 m] w fun e w' => e = .returned (ctl r c k l s) ∧ Ext w w' := by
  go_enter Try.func25, Try.ntmps25
  go_wp2_with fail
  refine (valid_spec _ _ _ _ _ _).mono ?_
  rintro e w1 ⟨rfl, b1⟩
  obtain ⟨c1, f1⟩ := b1.cells
  have z1 := b1.size
  try simp only [World.size_alloc] at c1 f1 z1
  have y1_0 : w.heap.size < w1.heap.size := by omega
  have k1_0_0 : w1.cell? ⟨w.heap.size, 0, none⟩ = some (.int .i64 r) := (c1 _ _ (by omega)).trans (by go_simp)
  have g1_0_0 : w1.frozen? ⟨w.heap.size, 0, none⟩ = false := (f1 _ _ (by omega)).trans (by go_simp)
  have k1_0_1 : w1.cell? ⟨w.heap.size, 1, none⟩ = some (.int .i64 c) := (c1 _ _ (by omega)).trans (by go_simp)
  have g1_0_1 : w1.frozen? ⟨w.heap.size, 1, none⟩ = false := (f1 _ _ (by omega)).trans (by go_simp)
  have k1_0_2 : w1.cell? ⟨w.heap.size, 2, none⟩ = some (.int .i64 k) := (c1 _ _ (by omega)).trans (by go_simp)
  have g1_0_2 : w1.frozen? ⟨w.heap.size, 2, none⟩ = false := (f1 _ _ (by omega)).trans (by go_simp)
  have k1_0_3 : w1.cell? ⟨w.heap.size, 3, none⟩ = some (.int .i64 l) := (c1 _ _ (by omega)).trans (by go_simp)
  have g1_0_3 : w1.frozen? ⟨w.heap.size, 3, none⟩ = false := (f1 _ _ (by omega)).trans (by go_simp)
  have k1_0_4 : w1.cell? ⟨w.heap.size, 4, none⟩ = some (.int .i64 s) := (c1 _ _ (by omega)).trans (by go_simp)
  have g1_0_4 : w1.frozen? ⟨w.heap.size, 4, none⟩ = false := (f1 _ _ (by omega)).trans (by go_simp)
  have y1_1 : w.heap.size + 1 < w1.heap.size := by omega
  have k1_1_0 : w1.cell? ⟨w.heap.size + 1, 0, none⟩ = some (.int .i64 0) := (c1 _ _ (by omega)).trans (by go_simp)
  have g1_1_0 : w1.frozen? ⟨w.heap.size + 1, 0, none⟩ = false := (f1 _ _ (by omega)).trans (by go_simp)
  have k1_1_1 : w1.cell? ⟨w.heap.size + 1, 1, none⟩ = some (.int .i64 0) := (c1 _ _ (by omega)).trans (by go_simp)
  have g1_1_1 : w1.frozen? ⟨w.heap.size + 1, 1, none⟩ = false := (f1 _ _ (by omega)).trans (by go_simp)
  have k1_1_2 : w1.cell? ⟨w.heap.size + 1, 2, none⟩ = some (.int .i64 0) := (c1 _ _ (by omega)).trans (by go_simp)
  have g1_1_2 : w1.frozen? ⟨w.heap.size + 1, 2, none⟩ = false := (f1 _ _ (by omega)).trans (by go_simp)
  have k1_1_3 : w1.cell? ⟨w.heap.size + 1, 3, none⟩ = some (.int .i64 0) := (c1 _ _ (by omega)).trans (by go_simp)
  have g1_1_3 : w1.frozen? ⟨w.heap.size + 1, 3, none⟩ = false := (f1 _ _ (by omega)).trans (by go_simp)
  have k1_1_4 : w1.cell? ⟨w.heap.size + 1, 4, none⟩ = some (.int .i64 0) := (c1 _ _ (by omega)).trans (by go_simp)
  have g1_1_4 : w1.frozen? ⟨w.heap.size + 1, 4, none⟩ = false := (f1 _ _ (by omega)).trans (by go_simp)
  clear c1 f1
  go_wp2
  refine bodyPost_ret (v := ctl r c k l s) (by simp [results, Try.results25, go_sem, *]) rfl ⟨rfl, ?_⟩
  repeat (first | with_reducible exact Ext.refl _ | with_reducible assumption | with_reducible refine Ext.alloc ?_ _ | with_reducible refine Ext.drew ?_ | with_reducible refine Ext.drewN ?_ _ | (with_reducible refine Ext.setCell ?_ ?hle _; case hle => (first | (with_reducible exact Nat.le_refl _) | omega | (dsimp only; omega) | (simp only [World.size_alloc]; omega))) | with_reducible refine Ext.trans ?_ (by with_reducible assumption))

set_option maxHeartbeats 400000 in
theorem end_spec_b (r c k l s m : Int) (hv : vcB r c k l s = true) (h : m < 0) (w : World) :
    Calls Try.prog 25 #[ctl r c k l s, .int .i64 m] w fun e w' => e = .returned (ctl r c k l s) ∧ Ext w w' := by
  go_enter Try.func25, Try.ntmps25
  go_wp2_with fail
  refine (valid_spec _ _ _ _ _ _).mono ?_
  rintro e w1 ⟨rfl, b1⟩
  obtain ⟨c1, f1⟩ := b1.cells
  have z1 := b1.size
  try simp only [World.size_alloc] at c1 f1 z1
  have y1_0 : w.heap.size < w1.heap.size := by omega
  have k1_0_0 : w1.cell? ⟨w.heap.size, 0, none⟩ = some (.int .i64 r) := (c1 _ _ (by omega)).trans (by go_simp)
  have g1_0_0 : w1.frozen? ⟨w.heap.size, 0, none⟩ = false := (f1 _ _ (by omega)).trans (by go_simp)
  have k1_0_1 : w1.cell? ⟨w.heap.size, 1, none⟩ = some (.int .i64 c) := (c1 _ _ (by omega)).trans (by go_simp)
  have g1_0_1 : w1.frozen? ⟨w.heap.size, 1, none⟩ = false := (f1 _ _ (by omega)).trans (by go_simp)
  have k1_0_2 : w1.cell? ⟨w.heap.size, 2, none⟩ = some (.int .i64 k) := (c1 _ _ (by omega)).trans (by go_simp)
  have g1_0_2 : w1.frozen? ⟨w.heap.size, 2, none⟩ = false := (f1 _ _ (by omega)).trans (by go_simp)
  have k1_0_3 : w1.cell? ⟨w.heap.size, 3, none⟩ = some (.int .i64 l) := (c1 _ _ (by omega)).trans (by go_simp)
  have g1_0_3 : w1.frozen? ⟨w.heap.size, 3, none⟩ = false := (f1 _ _ (by omega)).trans (by go_simp)
  have k1_0_4 : w1.cell? ⟨w.heap.size, 4, none⟩ = some (.int .i64 s) := (c1 _ _ (by omega)).trans (by go_simp)
  have g1_0_4 : w1.frozen? ⟨w.heap.size, 4, none⟩ = false := (f1 _ _ (by omega)).trans (by go_simp)
  have y1_1 : w.heap.size + 1 < w1.heap.size := by omega
  have k1_1_0 : w1.cell? ⟨w.heap.size + 1, 0, none⟩ = some (.int .i64 0) := (c1 _ _ (by omega)).trans (by go_simp)
  have g1_1_0 : w1.frozen? ⟨w.heap.size + 1, 0, none⟩ = false := (f1 _ _ (by omega)).trans (by go_simp)
  have k1_1_1 : w1.cell? ⟨w.heap.size + 1, 1, none⟩ = some (.int .i64 0) := (c1 _ _ (by omega)).trans (by go_simp)
  have g1_1_1 : w1.frozen? ⟨w.heap.size + 1, 1, none⟩ = false := (f1 _ _ (by omega)).trans (by go_simp)
  have k1_1_2 : w1.cell? ⟨w.heap.size + 1, 2, none⟩ = some (.int .i64 0) := (c1 _ _ (by omega)).trans (by go_simp)
  have g1_1_2 : w1.frozen? ⟨w.heap.size + 1, 2, none⟩ = false := (f1 _ _ (by omega)).trans (by go_simp)
  have k1_1_3 : w1.cell? ⟨w.heap.size + 1, 3, none⟩ = some (.int .i64 0) := (c1 _ _ (by omega)).trans (by go_simp)
  have g1_1_3 : w1.frozen? ⟨w.heap.size + 1, 3, none⟩ = false := (f1 _ _ (by omega)).trans (by go_simp)
  have k1_1_4 : w1.cell? ⟨w.heap.size + 1, 4, none⟩ = some (.int .i64 0) := (c1 _ _ (by omega)).trans (by go_simp)
  have g1_1_4 : w1.frozen? ⟨w.heap.size + 1, 4, none⟩ = false := (f1 _ _ (by omega)).trans (by go_simp)
  clear c1 f1
  go_wp2
  refine bodyPost_ret (v := ctl r c k l s) (by simp [results, Try.results25, go_sem, *]) rfl ⟨rfl, ?_⟩
  repeat (first | with_reducible exact Ext.refl _ | with_reducible assumption | with_reducible refine Ext.alloc ?_ _ | with_reducible refine Ext.drew ?_ | with_reducible refine Ext.drewN ?_ _ | (with_reducible refine Ext.setCell ?_ ?hle _; case hle => (first | (with_reducible exact Nat.le_refl _) | omega | (dsimp only; omega) | (simp only [World.size_alloc]; omega))) | with_reducible refine Ext.trans ?_ (by with_reducible assumption))

set_option maxHeartbeats 400000 in
theorem end_spec_c (r c k l s m : Int) (hv : vcB r c k l s = true) (h0 : 0 ≤ m) (hx : decide (m ≤ 1000000000000) = false) (w : World) :
    Calls Try.prog 25 #[ctl r c k l s, .int .i64 m] w fun e w' => e = .returned (ctl r c k l s) ∧ Ext w w' := by
  go_enter Try.func25, Try.ntmps25
  go_wp2_with fail
  refine (valid_spec _ _ _ _ _ _).mono ?_
  rintro e w1 ⟨rfl, b1⟩
  obtain ⟨c1, f1⟩ := b1.cells
  have z1 := b1.size
  try simp only [World.size_alloc] at c1 f1 z1
  have y1_0 : w.heap.size < w1.heap.size := by omega
  have k1_0_0 : w1.cell? ⟨w.heap.size, 0, none⟩ = some (.int .i64 r) := (c1 _ _ (by omega)).trans (by go_simp)
  have g1_0_0 : w1.frozen? ⟨w.heap.size, 0, none⟩ = false := (f1 _ _ (by omega)).trans (by go_simp)
  have k1_0_1 : w1.cell? ⟨w.heap.size, 1, none⟩ = some (.int .i64 c) := (c1 _ _ (by omega)).trans (by go_simp)
  have g1_0_1 : w1.frozen? ⟨w.heap.size, 1, none⟩ = false := (f1 _ _ (by omega)).trans (by go_simp)
  have k1_0_2 : w1.cell? ⟨w.heap.size, 2, none⟩ = some (.int .i64 k) := (c1 _ _ (by omega)).trans (by go_simp)
  have g1_0_2 : w1.frozen? ⟨w.heap.size, 2, none⟩ = false := (f1 _ _ (by omega)).trans (by go_simp)
  have k1_0_3 : w1.cell? ⟨w.heap.size, 3, none⟩ = some (.int .i64 l) := (c1 _ _ (by omega)).trans (by go_simp)
  have g1_0_3 : w1.frozen? ⟨w.heap.size, 3, none⟩ = false := (f1 _ _ (by omega)).trans (by go_simp)
  have k1_0_4 : w1.cell? ⟨w.heap.size, 4, none⟩ = some (.int .i64 s) := (c1 _ _ (by omega)).trans (by go_simp)
  have g1_0_4 : w1.frozen? ⟨w.heap.size, 4, none⟩ = false := (f1 _ _ (by omega)).trans (by go_simp)
  have y1_1 : w.heap.size + 1 < w1.heap.size := by omega
  have k1_1_0 : w1.cell? ⟨w.heap.size + 1, 0, none⟩ = some (.int .i64 0) := (c1 _ _ (by omega)).trans (by go_simp)
  have g1_1_0 : w1.frozen? ⟨w.heap.size + 1, 0, none⟩ = false := (f1 _ _ (by omega)).trans (by go_simp)
  have k1_1_1 : w1.cell? ⟨w.heap.size + 1, 1, none⟩ = some (.int .i64 0) := (c1 _ _ (by omega)).trans (by go_simp)
  have g1_1_1 : w1.frozen? ⟨w.heap.size + 1, 1, none⟩ = false := (f1 _ _ (by omega)).trans (by go_simp)
  have k1_1_2 : w1.cell? ⟨w.heap.size + 1, 2, none⟩ = some (.int .i64 0) := (c1 _ _ (by omega)).trans (by go_simp)
  have g1_1_2 : w1.frozen? ⟨w.heap.size + 1, 2, none⟩ = false := (f1 _ _ (by omega)).trans (by go_simp)
  have k1_1_3 : w1.cell? ⟨w.heap.size + 1, 3, none⟩ = some (.int .i64 0) := (c1 _ _ (by omega)).trans (by go_simp)
  have g1_1_3 : w1.frozen? ⟨w.heap.size + 1, 3, none⟩ = false := (f1 _ _ (by omega)).trans (by go_simp)
  have k1_1_4 : w1.cell? ⟨w.heap.size + 1, 4, none⟩ = some (.int .i64 0) := (c1 _ _ (by omega)).trans (by go_simp)
  have g1_1_4 : w1.frozen? ⟨w.heap.size + 1, 4, none⟩ = false := (f1 _ _ (by omega)).trans (by go_simp)
  clear c1 f1
  go_wp2
  refine bodyPost_ret (v := ctl r c k l s) (by simp [results, Try.results25, go_sem, *]) rfl ⟨rfl, ?_⟩
  repeat (first | with_reducible exact Ext.refl _ | with_reducible assumption | with_reducible refine Ext.alloc ?_ _ | with_reducible refine Ext.drew ?_ | with_reducible refine Ext.drewN ?_ _ | (with_reducible refine Ext.setCell ?_ ?hle _; case hle => (first | (with_reducible exact Nat.le_refl _) | omega | (dsimp only; omega) | (simp only [World.size_alloc]; omega))) | with_reducible refine Ext.trans ?_ (by with_reducible assumption))

set_option maxHeartbeats 400000 in
theorem end_spec_me (r k l s : Int) (hv : vcB r r k l s = true) (g0 : 1 ≤ r) (g1 : r ≤ 8) (w : World) :
    Calls Try.prog 25 #[ctl r r k l s, .int .i64 0] w fun e w' => e = .returned (ctl r r r 0 0) ∧ Ext w w' := by
  go_enter Try.func25, Try.ntmps25
  go_wp2_with fail
  refine (valid_spec _ _ _ _ _ _).mono ?_
  rintro e w1 ⟨rfl, b1⟩
  obtain ⟨c1, f1⟩ := b1.cells
  have z1 := b1.size
  try simp only [World.size_alloc] at c1 f1 z1
  have y1_0 : w.heap.size < w1.heap.size := by omega
  have k1_0_0 : w1.cell? ⟨w.heap.size, 0, none⟩ = some (.int .i64 r) := (c1 _ _ (by omega)).trans (by go_simp)
  have g1_0_0 : w1.frozen? ⟨w.heap.size, 0, none⟩ = false := (f1 _ _ (by omega)).trans (by go_simp)
  have k1_0_1 : w1.cell? ⟨w.heap.size, 1, none⟩ = some (.int .i64 r) := (c1 _ _ (by omega)).trans (by go_simp)
  have g1_0_1 : w1.frozen? ⟨w.heap.size, 1, none⟩ = false := (f1 _ _ (by omega)).trans (by go_simp)
  have k1_0_2 : w1.cell? ⟨w.heap.size, 2, none⟩ = some (.int .i64 k) := (c1 _ _ (by omega)).trans (by go_simp)
  have g1_0_2 : w1.frozen? ⟨w.heap.size, 2, none⟩ = false := (f1 _ _ (by omega)).trans (by go_simp)
  have k1_0_3 : w1.cell? ⟨w.heap.size, 3, none⟩ = some (.int .i64 l) := (c1 _ _ (by omega)).trans (by go_simp)
  have g1_0_3 : w1.frozen? ⟨w.heap.size, 3, none⟩ = false := (f1 _ _ (by omega)).trans (by go_simp)
  have k1_0_4 : w1.cell? ⟨w.heap.size, 4, none⟩ = some (.int .i64 s) := (c1 _ _ (by omega)).trans (by go_simp)
  have g1_0_4 : w1.frozen? ⟨w.heap.size, 4, none⟩ = false := (f1 _ _ (by omega)).trans (by go_simp)
  have y1_1 : w.heap.size + 1 < w1.heap.size := by omega
  have k1_1_0 : w1.cell? ⟨w.heap.size + 1, 0, none⟩ = some (.int .i64 0) := (c1 _ _ (by omega)).trans (by go_simp)
  have g1_1_0 : w1.frozen? ⟨w.heap.size + 1, 0, none⟩ = false := (f1 _ _ (by omega)).trans (by go_simp)
  have k1_1_1 : w1.cell? ⟨w.heap.size + 1, 1, none⟩ = some (.int .i64 0) := (c1 _ _ (by omega)).trans (by go_simp)
  have g1_1_1 : w1.frozen? ⟨w.heap.size + 1, 1, none⟩ = false := (f1 _ _ (by omega)).trans (by go_simp)
  have k1_1_2 : w1.cell? ⟨w.heap.size + 1, 2, none⟩ = some (.int .i64 0) := (c1 _ _ (by omega)).trans (by go_simp)
  have g1_1_2 : w1.frozen? ⟨w.heap.size + 1, 2, none⟩ = false := (f1 _ _ (by omega)).trans (by go_simp)
  have k1_1_3 : w1.cell? ⟨w.heap.size + 1, 3, none⟩ = some (.int .i64 0) := (c1 _ _ (by omega)).trans (by go_simp)
  have g1_1_3 : w1.frozen? ⟨w.heap.size + 1, 3, none⟩ = false := (f1 _ _ (by omega)).trans (by go_simp)
  have k1_1_4 : w1.cell? ⟨w.heap.size + 1, 4, none⟩ = some (.int .i64 0) := (c1 _ _ (by omega)).trans (by go_simp)
  have g1_1_4 : w1.frozen? ⟨w.heap.size + 1, 4, none⟩ = false := (f1 _ _ (by omega)).trans (by go_simp)
  clear c1 f1
  go_wp2
  refine bodyPost_ret (v := ctl r r r 0 0) (by simp [results, Try.results25, go_sem, *]) rfl ⟨rfl, ?_⟩
  repeat (first | with_reducible exact Ext.refl _ | with_reducible assumption | with_reducible refine Ext.alloc ?_ _ | with_reducible refine Ext.drew ?_ | with_reducible refine Ext.drewN ?_ _ | (with_reducible refine Ext.setCell ?_ ?hle _; case hle => (first | (with_reducible exact Nat.le_refl _) | omega | (dsimp only; omega) | (simp only [World.size_alloc]; omega))) | with_reducible refine Ext.trans ?_ (by with_reducible assumption))

set_option maxHeartbeats 400000 in
theorem end_spec_ms (r k l s : Int) (hv : vcB r (r + 1) k l s = true) (g0 : 1 ≤ r) (g1 : r ≤ 7) (w : World) :
    Calls Try.prog 25 #[ctl r (r + 1) k l s, .int .i64 0] w fun e w' => e = .returned (ctl (r + 1) (r + 1) (r + 1) 0 0) ∧ Ext w w' := by
  go_enter Try.func25, Try.ntmps25
  go_wp2_with fail
  refine (valid_spec _ _ _ _ _ _).mono ?_
  rintro e w1 ⟨rfl, b1⟩
  obtain ⟨c1, f1⟩ := b1.cells
  have z1 := b1.size
  try simp only [World.size_alloc] at c1 f1 z1
  have y1_0 : w.heap.size < w1.heap.size := by omega
  have k1_0_0 : w1.cell? ⟨w.heap.size, 0, none⟩ = some (.int .i64 r) := (c1 _ _ (by omega)).trans (by go_simp)
  have g1_0_0 : w1.frozen? ⟨w.heap.size, 0, none⟩ = false := (f1 _ _ (by omega)).trans (by go_simp)
  have k1_0_1 : w1.cell? ⟨w.heap.size, 1, none⟩ = some (.int .i64 (r + 1)) := (c1 _ _ (by omega)).trans (by go_simp)
  have g1_0_1 : w1.frozen? ⟨w.heap.size, 1, none⟩ = false := (f1 _ _ (by omega)).trans (by go_simp)
  have k1_0_2 : w1.cell? ⟨w.heap.size, 2, none⟩ = some (.int .i64 k) := (c1 _ _ (by omega)).trans (by go_simp)
  have g1_0_2 : w1.frozen? ⟨w.heap.size, 2, none⟩ = false := (f1 _ _ (by omega)).trans (by go_simp)
  have k1_0_3 : w1.cell? ⟨w.heap.size, 3, none⟩ = some (.int .i64 l) := (c1 _ _ (by omega)).trans (by go_simp)
  have g1_0_3 : w1.frozen? ⟨w.heap.size, 3, none⟩ = false := (f1 _ _ (by omega)).trans (by go_simp)
  have k1_0_4 : w1.cell? ⟨w.heap.size, 4, none⟩ = some (.int .i64 s) := (c1 _ _ (by omega)).trans (by go_simp)
  have g1_0_4 : w1.frozen? ⟨w.heap.size, 4, none⟩ = false := (f1 _ _ (by omega)).trans (by go_simp)
  have y1_1 : w.heap.size + 1 < w1.heap.size := by omega
  have k1_1_0 : w1.cell? ⟨w.heap.size + 1, 0, none⟩ = some (.int .i64 0) := (c1 _ _ (by omega)).trans (by go_simp)
  have g1_1_0 : w1.frozen? ⟨w.heap.size + 1, 0, none⟩ = false := (f1 _ _ (by omega)).trans (by go_simp)
  have k1_1_1 : w1.cell? ⟨w.heap.size + 1, 1, none⟩ = some (.int .i64 0) := (c1 _ _ (by omega)).trans (by go_simp)
  have g1_1_1 : w1.frozen? ⟨w.heap.size + 1, 1, none⟩ = false := (f1 _ _ (by omega)).trans (by go_simp)
  have k1_1_2 : w1.cell? ⟨w.heap.size + 1, 2, none⟩ = some (.int .i64 0) := (c1 _ _ (by omega)).trans (by go_simp)
  have g1_1_2 : w1.frozen? ⟨w.heap.size + 1, 2, none⟩ = false := (f1 _ _ (by omega)).trans (by go_simp)
  have k1_1_3 : w1.cell? ⟨w.heap.size + 1, 3, none⟩ = some (.int .i64 0) := (c1 _ _ (by omega)).trans (by go_simp)
  have g1_1_3 : w1.frozen? ⟨w.heap.size + 1, 3, none⟩ = false := (f1 _ _ (by omega)).trans (by go_simp)
  have k1_1_4 : w1.cell? ⟨w.heap.size + 1, 4, none⟩ = some (.int .i64 0) := (c1 _ _ (by omega)).trans (by go_simp)
  have g1_1_4 : w1.frozen? ⟨w.heap.size + 1, 4, none⟩ = false := (f1 _ _ (by omega)).trans (by go_simp)
  clear c1 f1
  go_wp2
  refine bodyPost_ret (v := ctl (r + 1) (r + 1) (r + 1) 0 0) (by simp [results, Try.results25, go_sem, *]) rfl ⟨rfl, ?_⟩
  repeat (first | with_reducible exact Ext.refl _ | with_reducible assumption | with_reducible refine Ext.alloc ?_ _ | with_reducible refine Ext.drew ?_ | with_reducible refine Ext.drewN ?_ _ | (with_reducible refine Ext.setCell ?_ ?hle _; case hle => (first | (with_reducible exact Nat.le_refl _) | omega | (dsimp only; omega) | (simp only [World.size_alloc]; omega))) | with_reducible refine Ext.trans ?_ (by with_reducible assumption))

set_option maxHeartbeats 400000 in
theorem end_spec_mt (r c k l s : Int) (hv : vcB r c k l s = true) (g0 : 1 ≤ r) (g1 : r + 1 < c) (g2 : c ≤ 8) (w : World) :
    Calls Try.prog 25 #[ctl r c k l s, .int .i64 0] w fun e w' => e = .returned (ctl (r + 1) c (r + 1) 0 0) ∧ Ext w w' := by
  go_enter Try.func25, Try.ntmps25
  go_wp2_with fail
  refine (valid_spec _ _ _ _ _ _).mono ?_
  rintro e w1 ⟨rfl, b1⟩
  obtain ⟨c1, f1⟩ := b1.cells
  have z1 := b1.size
  try simp only [World.size_alloc] at c1 f1 z1
  have y1_0 : w.heap.size < w1.heap.size := by omega
  have k1_0_0 : w1.cell? ⟨w.heap.size, 0, none⟩ = some (.int .i64 r) := (c1 _ _ (by omega)).trans (by go_simp)
  have g1_0_0 : w1.frozen? ⟨w.heap.size, 0, none⟩ = false := (f1 _ _ (by omega)).trans (by go_simp)
  have k1_0_1 : w1.cell? ⟨w.heap.size, 1, none⟩ = some (.int .i64 c) := (c1 _ _ (by omega)).trans (by go_simp)
  have g1_0_1 : w1.frozen? ⟨w.heap.size, 1, none⟩ = false := (f1 _ _ (by omega)).trans (by go_simp)
  have k1_0_2 : w1.cell? ⟨w.heap.size, 2, none⟩ = some (.int .i64 k) := (c1 _ _ (by omega)).trans (by go_simp)
  have g1_0_2 : w1.frozen? ⟨w.heap.size, 2, none⟩ = false := (f1 _ _ (by omega)).trans (by go_simp)
  have k1_0_3 : w1.cell? ⟨w.heap.size, 3, none⟩ = some (.int .i64 l) := (c1 _ _ (by omega)).trans (by go_simp)
  have g1_0_3 : w1.frozen? ⟨w.heap.size, 3, none⟩ = false := (f1 _ _ (by omega)).trans (by go_simp)
  have k1_0_4 : w1.cell? ⟨w.heap.size, 4, none⟩ = some (.int .i64 s) := (c1 _ _ (by omega)).trans (by go_simp)
  have g1_0_4 : w1.frozen? ⟨w.heap.size, 4, none⟩ = false := (f1 _ _ (by omega)).trans (by go_simp)
  have y1_1 : w.heap.size + 1 < w1.heap.size := by omega
  have k1_1_0 : w1.cell? ⟨w.heap.size + 1, 0, none⟩ = some (.int .i64 0) := (c1 _ _ (by omega)).trans (by go_simp)
  have g1_1_0 : w1.frozen? ⟨w.heap.size + 1, 0, none⟩ = false := (f1 _ _ (by omega)).trans (by go_simp)
  have k1_1_1 : w1.cell? ⟨w.heap.size + 1, 1, none⟩ = some (.int .i64 0) := (c1 _ _ (by omega)).trans (by go_simp)
  have g1_1_1 : w1.frozen? ⟨w.heap.size + 1, 1, none⟩ = false := (f1 _ _ (by omega)).trans (by go_simp)
  have k1_1_2 : w1.cell? ⟨w.heap.size + 1, 2, none⟩ = some (.int .i64 0) := (c1 _ _ (by omega)).trans (by go_simp)
  have g1_1_2 : w1.frozen? ⟨w.heap.size + 1, 2, none⟩ = false := (f1 _ _ (by omega)).trans (by go_simp)
  have k1_1_3 : w1.cell? ⟨w.heap.size + 1, 3, none⟩ = some (.int .i64 0) := (c1 _ _ (by omega)).trans (by go_simp)
  have g1_1_3 : w1.frozen? ⟨w.heap.size + 1, 3, none⟩ = false := (f1 _ _ (by omega)).trans (by go_simp)
  have k1_1_4 : w1.cell? ⟨w.heap.size + 1, 4, none⟩ = some (.int .i64 0) := (c1 _ _ (by omega)).trans (by go_simp)
  have g1_1_4 : w1.frozen? ⟨w.heap.size + 1, 4, none⟩ = false := (f1 _ _ (by omega)).trans (by go_simp)
  clear c1 f1
  go_wp2
  refine bodyPost_ret (v := ctl (r + 1) c (r + 1) 0 0) (by simp [results, Try.results25, go_sem, *]) rfl ⟨rfl, ?_⟩
  repeat (first | with_reducible exact Ext.refl _ | with_reducible assumption | with_reducible refine Ext.alloc ?_ _ | with_reducible refine Ext.drew ?_ | with_reducible refine Ext.drewN ?_ _ | (with_reducible refine Ext.setCell ?_ ?hle _; case hle => (first | (with_reducible exact Nat.le_refl _) | omega | (dsimp only; omega) | (simp only [World.size_alloc]; omega))) | with_reducible refine Ext.trans ?_ (by with_reducible assumption))

set_option maxHeartbeats 400000 in
theorem end_spec_le (r k s m : Int) (hv : vcB r r k 0 s = true) (hm : (m == 0) = false) (g0 : 1 ≤ r) (g1 : r ≤ 8) (hm0 : 0 ≤ m) (hm1 : m ≤ 1000000000000) (w : World) :
    Calls Try.prog 25 #[ctl r r k 0 s, .int .i64 m] w fun e w' => e = .returned (ctl r r r m 0) ∧ Ext w w' := by
  go_enter Try.func25, Try.ntmps25
  go_wp2_with fail
  refine (valid_spec _ _ _ _ _ _).mono ?_
  rintro e w1 ⟨rfl, b1⟩
  obtain ⟨c1, f1⟩ := b1.cells
  have z1 := b1.size
  try simp only [World.size_alloc] at c1 f1 z1
  have y1_0 : w.heap.size < w1.heap.size := by omega
  have k1_0_0 : w1.cell? ⟨w.heap.size, 0, none⟩ = some (.int .i64 r) := (c1 _ _ (by omega)).trans (by go_simp)
  have g1_0_0 : w1.frozen? ⟨w.heap.size, 0, none⟩ = false := (f1 _ _ (by omega)).trans (by go_simp)
  have k1_0_1 : w1.cell? ⟨w.heap.size, 1, none⟩ = some (.int .i64 r) := (c1 _ _ (by omega)).trans (by go_simp)
  have g1_0_1 : w1.frozen? ⟨w.heap.size, 1, none⟩ = false := (f1 _ _ (by omega)).trans (by go_simp)
  have k1_0_2 : w1.cell? ⟨w.heap.size, 2, none⟩ = some (.int .i64 k) := (c1 _ _ (by omega)).trans (by go_simp)
  have g1_0_2 : w1.frozen? ⟨w.heap.size, 2, none⟩ = false := (f1 _ _ (by omega)).trans (by go_simp)
  have k1_0_3 : w1.cell? ⟨w.heap.size, 3, none⟩ = some (.int .i64 0) := (c1 _ _ (by omega)).trans (by go_simp)
  have g1_0_3 : w1.frozen? ⟨w.heap.size, 3, none⟩ = false := (f1 _ _ (by omega)).trans (by go_simp)
  have k1_0_4 : w1.cell? ⟨w.heap.size, 4, none⟩ = some (.int .i64 s) := (c1 _ _ (by omega)).trans (by go_simp)
  have g1_0_4 : w1.frozen? ⟨w.heap.size, 4, none⟩ = false := (f1 _ _ (by omega)).trans (by go_simp)
  have y1_1 : w.heap.size + 1 < w1.heap.size := by omega
  have k1_1_0 : w1.cell? ⟨w.heap.size + 1, 0, none⟩ = some (.int .i64 0) := (c1 _ _ (by omega)).trans (by go_simp)
  have g1_1_0 : w1.frozen? ⟨w.heap.size + 1, 0, none⟩ = false := (f1 _ _ (by omega)).trans (by go_simp)
  have k1_1_1 : w1.cell? ⟨w.heap.size + 1, 1, none⟩ = some (.int .i64 0) := (c1 _ _ (by omega)).trans (by go_simp)
  have g1_1_1 : w1.frozen? ⟨w.heap.size + 1, 1, none⟩ = false := (f1 _ _ (by omega)).trans (by go_simp)
  have k1_1_2 : w1.cell? ⟨w.heap.size + 1, 2, none⟩ = some (.int .i64 0) := (c1 _ _ (by omega)).trans (by go_simp)
  have g1_1_2 : w1.frozen? ⟨w.heap.size + 1, 2, none⟩ = false := (f1 _ _ (by omega)).trans (by go_simp)
  have k1_1_3 : w1.cell? ⟨w.heap.size + 1, 3, none⟩ = some (.int .i64 0) := (c1 _ _ (by omega)).trans (by go_simp)
  have g1_1_3 : w1.frozen? ⟨w.heap.size + 1, 3, none⟩ = false := (f1 _ _ (by omega)).trans (by go_simp)
  have k1_1_4 : w1.cell? ⟨w.heap.size + 1, 4, none⟩ = some (.int .i64 0) := (c1 _ _ (by omega)).trans (by go_simp)
  have g1_1_4 : w1.frozen? ⟨w.heap.size + 1, 4, none⟩ = false := (f1 _ _ (by omega)).trans (by go_simp)
  clear c1 f1
  go_wp2
  refine bodyPost_ret (v := ctl r r r m 0) (by simp [results, Try.results25, go_sem, *]) rfl ⟨rfl, ?_⟩
  repeat (first | with_reducible exact Ext.refl _ | with_reducible assumption | with_reducible refine Ext.alloc ?_ _ | with_reducible refine Ext.drew ?_ | with_reducible refine Ext.drewN ?_ _ | (with_reducible refine Ext.setCell ?_ ?hle _; case hle => (first | (with_reducible exact Nat.le_refl _) | omega | (dsimp only; omega) | (simp only [World.size_alloc]; omega))) | with_reducible refine Ext.trans ?_ (by with_reducible assumption))

set_option maxHeartbeats 400000 in
theorem end_spec_ls (r k s m : Int) (hv : vcB r (r + 1) k 0 s = true) (hm : (m == 0) = false) (g0 : 1 ≤ r) (g1 : r ≤ 7) (hm0 : 0 ≤ m) (hm1 : m ≤ 1000000000000) (w : World) :
    Calls Try.prog 25 #[ctl r (r + 1) k 0 s, .int .i64 m] w fun e w' => e = .returned (ctl (r + 1) (r + 1) (r + 1) m 0) ∧ Ext w w' := by
  go_enter Try.func25, Try.ntmps25
  go_wp2_with fail
  refine (valid_spec _ _ _ _ _ _).mono ?_
  rintro e w1 ⟨rfl, b1⟩
  obtain ⟨c1, f1⟩ := b1.cells
  have z1 := b1.size
  try simp only [World.size_alloc] at c1 f1 z1
  have y1_0 : w.heap.size < w1.heap.size := by omega
  have k1_0_0 : w1.cell? ⟨w.heap.size, 0, none⟩ = some (.int .i64 r) := (c1 _ _ (by omega)).trans (by go_simp)
  have g1_0_0 : w1.frozen? ⟨w.heap.size, 0, none⟩ = false := (f1 _ _ (by omega)).trans (by go_simp)
  have k1_0_1 : w1.cell? ⟨w.heap.size, 1, none⟩ = some (.int .i64 (r + 1)) := (c1 _ _ (by omega)).trans (by go_simp)
  have g1_0_1 : w1.frozen? ⟨w.heap.size, 1, none⟩ = false := (f1 _ _ (by omega)).trans (by go_simp)
  have k1_0_2 : w1.cell? ⟨w.heap.size, 2, none⟩ = some (.int .i64 k) := (c1 _ _ (by omega)).trans (by go_simp)
  have g1_0_2 : w1.frozen? ⟨w.heap.size, 2, none⟩ = false := (f1 _ _ (by omega)).trans (by go_simp)
  have k1_0_3 : w1.cell? ⟨w.heap.size, 3, none⟩ = some (.int .i64 0) := (c1 _ _ (by omega)).trans (by go_simp)
  have g1_0_3 : w1.frozen? ⟨w.heap.size, 3, none⟩ = false := (f1 _ _ (by omega)).trans (by go_simp)
  have k1_0_4 : w1.cell? ⟨w.heap.size, 4, none⟩ = some (.int .i64 s) := (c1 _ _ (by omega)).trans (by go_simp)
  have g1_0_4 : w1.frozen? ⟨w.heap.size, 4, none⟩ = false := (f1 _ _ (by omega)).trans (by go_simp)
  have y1_1 : w.heap.size + 1 < w1.heap.size := by omega
  have k1_1_0 : w1.cell? ⟨w.heap.size + 1, 0, none⟩ = some (.int .i64 0) := (c1 _ _ (by omega)).trans (by go_simp)
  have g1_1_0 : w1.frozen? ⟨w.heap.size + 1, 0, none⟩ = false := (f1 _ _ (by omega)).trans (by go_simp)
  have k1_1_1 : w1.cell? ⟨w.heap.size + 1, 1, none⟩ = some (.int .i64 0) := (c1 _ _ (by omega)).trans (by go_simp)
  have g1_1_1 : w1.frozen? ⟨w.heap.size + 1, 1, none⟩ = false := (f1 _ _ (by omega)).trans (by go_simp)
  have k1_1_2 : w1.cell? ⟨w.heap.size + 1, 2, none⟩ = some (.int .i64 0) := (c1 _ _ (by omega)).trans (by go_simp)
  have g1_1_2 : w1.frozen? ⟨w.heap.size + 1, 2, none⟩ = false := (f1 _ _ (by omega)).trans (by go_simp)
  have k1_1_3 : w1.cell? ⟨w.heap.size + 1, 3, none⟩ = some (.int .i64 0) := (c1 _ _ (by omega)).trans (by go_simp)
  have g1_1_3 : w1.frozen? ⟨w.heap.size + 1, 3, none⟩ = false := (f1 _ _ (by omega)).trans (by go_simp)
  have k1_1_4 : w1.cell? ⟨w.heap.size + 1, 4, none⟩ = some (.int .i64 0) := (c1 _ _ (by omega)).trans (by go_simp)
  have g1_1_4 : w1.frozen? ⟨w.heap.size + 1, 4, none⟩ = false := (f1 _ _ (by omega)).trans (by go_simp)
  clear c1 f1
  go_wp2
  refine bodyPost_ret (v := ctl (r + 1) (r + 1) (r + 1) m 0) (by simp [results, Try.results25, go_sem, *]) rfl ⟨rfl, ?_⟩
  repeat (first | with_reducible exact Ext.refl _ | with_reducible assumption | with_reducible refine Ext.alloc ?_ _ | with_reducible refine Ext.drew ?_ | with_reducible refine Ext.drewN ?_ _ | (with_reducible refine Ext.setCell ?_ ?hle _; case hle => (first | (with_reducible exact Nat.le_refl _) | omega | (dsimp only; omega) | (simp only [World.size_alloc]; omega))) | with_reducible refine Ext.trans ?_ (by with_reducible assumption))

set_option maxHeartbeats 400000 in
theorem end_spec_lt (r c k s m : Int) (hv : vcB r c k 0 s = true) (hm : (m == 0) = false) (g0 : 1 ≤ r) (g1 : r + 1 < c) (g2 : c ≤ 8) (hm0 : 0 ≤ m) (hm1 : m ≤ 1000000000000) (w : World) :
    Calls Try.prog 25 #[ctl r c k 0 s, .int .i64 m] w fun e w' => e = .returned (ctl (r + 1) c (r + 1) m 0) ∧ Ext w w' := by
  go_enter Try.func25, Try.ntmps25
  go_wp2_with fail
  refine (valid_spec _ _ _ _ _ _).mono ?_
  rintro e w1 ⟨rfl, b1⟩
  obtain ⟨c1, f1⟩ := b1.cells
  have z1 := b1.size
  try simp only [World.size_alloc] at c1 f1 z1
  have y1_0 : w.heap.size < w1.heap.size := by omega
  have k1_0_0 : w1.cell? ⟨w.heap.size, 0, none⟩ = some (.int .i64 r) := (c1 _ _ (by omega)).trans (by go_simp)
  have g1_0_0 : w1.frozen? ⟨w.heap.size, 0, none⟩ = false := (f1 _ _ (by omega)).trans (by go_simp)
  have k1_0_1 : w1.cell? ⟨w.heap.size, 1, none⟩ = some (.int .i64 c) := (c1 _ _ (by omega)).trans (by go_simp)
  have g1_0_1 : w1.frozen? ⟨w.heap.size, 1, none⟩ = false := (f1 _ _ (by omega)).trans (by go_simp)
  have k1_0_2 : w1.cell? ⟨w.heap.size, 2, none⟩ = some (.int .i64 k) := (c1 _ _ (by omega)).trans (by go_simp)
  have g1_0_2 : w1.frozen? ⟨w.heap.size, 2, none⟩ = false := (f1 _ _ (by omega)).trans (by go_simp)
  have k1_0_3 : w1.cell? ⟨w.heap.size, 3, none⟩ = some (.int .i64 0) := (c1 _ _ (by omega)).trans (by go_simp)
  have g1_0_3 : w1.frozen? ⟨w.heap.size, 3, none⟩ = false := (f1 _ _ (by omega)).trans (by go_simp)
  have k1_0_4 : w1.cell? ⟨w.heap.size, 4, none⟩ = some (.int .i64 s) := (c1 _ _ (by omega)).trans (by go_simp)
  have g1_0_4 : w1.frozen? ⟨w.heap.size, 4, none⟩ = false := (f1 _ _ (by omega)).trans (by go_simp)
  have y1_1 : w.heap.size + 1 < w1.heap.size := by omega
  have k1_1_0 : w1.cell? ⟨w.heap.size + 1, 0, none⟩ = some (.int .i64 0) := (c1 _ _ (by omega)).trans (by go_simp)
  have g1_1_0 : w1.frozen? ⟨w.heap.size + 1, 0, none⟩ = false := (f1 _ _ (by omega)).trans (by go_simp)
  have k1_1_1 : w1.cell? ⟨w.heap.size + 1, 1, none⟩ = some (.int .i64 0) := (c1 _ _ (by omega)).trans (by go_simp)
  have g1_1_1 : w1.frozen? ⟨w.heap.size + 1, 1, none⟩ = false := (f1 _ _ (by omega)).trans (by go_simp)
  have k1_1_2 : w1.cell? ⟨w.heap.size + 1, 2, none⟩ = some (.int .i64 0) := (c1 _ _ (by omega)).trans (by go_simp)
  have g1_1_2 : w1.frozen? ⟨w.heap.size + 1, 2, none⟩ = false := (f1 _ _ (by omega)).trans (by go_simp)
  have k1_1_3 : w1.cell? ⟨w.heap.size + 1, 3, none⟩ = some (.int .i64 0) := (c1 _ _ (by omega)).trans (by go_simp)
  have g1_1_3 : w1.frozen? ⟨w.heap.size + 1, 3, none⟩ = false := (f1 _ _ (by omega)).trans (by go_simp)
  have k1_1_4 : w1.cell? ⟨w.heap.size + 1, 4, none⟩ = some (.int .i64 0) := (c1 _ _ (by omega)).trans (by go_simp)
  have g1_1_4 : w1.frozen? ⟨w.heap.size + 1, 4, none⟩ = false := (f1 _ _ (by omega)).trans (by go_simp)
  clear c1 f1
  go_wp2
  refine bodyPost_ret (v := ctl (r + 1) c (r + 1) m 0) (by simp [results, Try.results25, go_sem, *]) rfl ⟨rfl, ?_⟩
  repeat (first | with_reducible exact Ext.refl _ | with_reducible assumption | with_reducible refine Ext.alloc ?_ _ | with_reducible refine Ext.drew ?_ | with_reducible refine Ext.drewN ?_ _ | (with_reducible refine Ext.setCell ?_ ?hle _; case hle => (first | (with_reducible exact Nat.le_refl _) | omega | (dsimp only; omega) | (simp only [World.size_alloc]; omega))) | with_reducible refine Ext.trans ?_ (by with_reducible assumption))

set_option maxHeartbeats 400000 in
theorem end_spec_de (r k l s m : Int) (hv : vcB r r k l s = true) (hm : (m == 0) = false) (hl : (l == 0) = false) (hd : m < l) (g0 : 1 ≤ r) (g1 : r ≤ 8) (hm0 : 0 ≤ m) (hm1 : m ≤ 1000000000000) (w : World) :
    Calls Try.prog 25 #[ctl r r k l s, .int .i64 m] w fun e w' => e = .returned (ctl r r r m 0) ∧ Ext w w' := by
  go_enter Try.func25, Try.ntmps25
  go_wp2_with fail
  refine (valid_spec _ _ _ _ _ _).mono ?_
  rintro e w1 ⟨rfl, b1⟩
  obtain ⟨c1, f1⟩ := b1.cells
  have z1 := b1.size
  try simp only [World.size_alloc] at c1 f1 z1
  have y1_0 : w.heap.size < w1.heap.size := by omega
  have k1_0_0 : w1.cell? ⟨w.heap.size, 0, none⟩ = some (.int .i64 r) := (c1 _ _ (by omega)).trans (by go_simp)
  have g1_0_0 : w1.frozen? ⟨w.heap.size, 0, none⟩ = false := (f1 _ _ (by omega)).trans (by go_simp)
  have k1_0_1 : w1.cell? ⟨w.heap.size, 1, none⟩ = some (.int .i64 r) := (c1 _ _ (by omega)).trans (by go_simp)
  have g1_0_1 : w1.frozen? ⟨w.heap.size, 1, none⟩ = false := (f1 _ _ (by omega)).trans (by go_simp)
  have k1_0_2 : w1.cell? ⟨w.heap.size, 2, none⟩ = some (.int .i64 k) := (c1 _ _ (by omega)).trans (by go_simp)
  have g1_0_2 : w1.frozen? ⟨w.heap.size, 2, none⟩ = false := (f1 _ _ (by omega)).trans (by go_simp)
  have k1_0_3 : w1.cell? ⟨w.heap.size, 3, none⟩ = some (.int .i64 l) := (c1 _ _ (by omega)).trans (by go_simp)
  have g1_0_3 : w1.frozen? ⟨w.heap.size, 3, none⟩ = false := (f1 _ _ (by omega)).trans (by go_simp)
  have k1_0_4 : w1.cell? ⟨w.heap.size, 4, none⟩ = some (.int .i64 s) := (c1 _ _ (by omega)).trans (by go_simp)
  have g1_0_4 : w1.frozen? ⟨w.heap.size, 4, none⟩ = false := (f1 _ _ (by omega)).trans (by go_simp)
  have y1_1 : w.heap.size + 1 < w1.heap.size := by omega
  have k1_1_0 : w1.cell? ⟨w.heap.size + 1, 0, none⟩ = some (.int .i64 0) := (c1 _ _ (by omega)).trans (by go_simp)
  have g1_1_0 : w1.frozen? ⟨w.heap.size + 1, 0, none⟩ = false := (f1 _ _ (by omega)).trans (by go_simp)
  have k1_1_1 : w1.cell? ⟨w.heap.size + 1, 1, none⟩ = some (.int .i64 0) := (c1 _ _ (by omega)).trans (by go_simp)
  have g1_1_1 : w1.frozen? ⟨w.heap.size + 1, 1, none⟩ = false := (f1 _ _ (by omega)).trans (by go_simp)
  have k1_1_2 : w1.cell? ⟨w.heap.size + 1, 2, none⟩ = some (.int .i64 0) := (c1 _ _ (by omega)).trans (by go_simp)
  have g1_1_2 : w1.frozen? ⟨w.heap.size + 1, 2, none⟩ = false := (f1 _ _ (by omega)).trans (by go_simp)
  have k1_1_3 : w1.cell? ⟨w.heap.size + 1, 3, none⟩ = some (.int .i64 0) := (c1 _ _ (by omega)).trans (by go_simp)
  have g1_1_3 : w1.frozen? ⟨w.heap.size + 1, 3, none⟩ = false := (f1 _ _ (by omega)).trans (by go_simp)
  have k1_1_4 : w1.cell? ⟨w.heap.size + 1, 4, none⟩ = some (.int .i64 0) := (c1 _ _ (by omega)).trans (by go_simp)
  have g1_1_4 : w1.frozen? ⟨w.heap.size + 1, 4, none⟩ = false := (f1 _ _ (by omega)).trans (by go_simp)
  clear c1 f1
  go_wp2
  refine bodyPost_ret (v := ctl r r r m 0) (by simp [results, Try.results25, go_sem, *]) rfl ⟨rfl, ?_⟩
  repeat (first | with_reducible exact Ext.refl _ | with_reducible assumption | with_reducible refine Ext.alloc ?_ _ | with_reducible refine Ext.drew ?_ | with_reducible refine Ext.drewN ?_ _ | (with_reducible refine Ext.setCell ?_ ?hle _; case hle => (first | (with_reducible exact Nat.le_refl _) | omega | (dsimp only; omega) | (simp only [World.size_alloc]; omega))) | with_reducible refine Ext.trans ?_ (by with_reducible assumption))

set_option maxHeartbeats 400000 in
theorem end_spec_ds (r k l s m : Int) (hv : vcB r (r + 1) k l s = true) (hm : (m == 0) = false) (hl : (l == 0) = false) (hd : m < l) (g0 : 1 ≤ r) (g1 : r ≤ 7) (hm0 : 0 ≤ m) (hm1 : m ≤ 1000000000000) (w : World) :
    Calls Try.prog 25 #[ctl r (r + 1) k l s, .int .i64 m] w fun e w' => e = .returned (ctl (r + 1) (r + 1) (r + 1) m 0) ∧ Ext w w' := by
  go_enter Try.func25, Try.ntmps25
  go_wp2_with fail
  refine (valid_spec _ _ _ _ _ _).mono ?_
  rintro e w1 ⟨rfl, b1⟩
  obtain ⟨c1, f1⟩ := b1.cells
  have z1 := b1.size
  try simp only [World.size_alloc] at c1 f1 z1
  have y1_0 : w.heap.size < w1.heap.size := by omega
  have k1_0_0 : w1.cell? ⟨w.heap.size, 0, none⟩ = some (.int .i64 r) := (c1 _ _ (by omega)).trans (by go_simp)
  have g1_0_0 : w1.frozen? ⟨w.heap.size, 0, none⟩ = false := (f1 _ _ (by omega)).trans (by go_simp)
  have k1_0_1 : w1.cell? ⟨w.heap.size, 1, none⟩ = some (.int .i64 (r + 1)) := (c1 _ _ (by omega)).trans (by go_simp)
  have g1_0_1 : w1.frozen? ⟨w.heap.size, 1, none⟩ = false := (f1 _ _ (by omega)).trans (by go_simp)
  have k1_0_2 : w1.cell? ⟨w.heap.size, 2, none⟩ = some (.int .i64 k) := (c1 _ _ (by omega)).trans (by go_simp)
  have g1_0_2 : w1.frozen? ⟨w.heap.size, 2, none⟩ = false := (f1 _ _ (by omega)).trans (by go_simp)
  have k1_0_3 : w1.cell? ⟨w.heap.size, 3, none⟩ = some (.int .i64 l) := (c1 _ _ (by omega)).trans (by go_simp)
  have g1_0_3 : w1.frozen? ⟨w.heap.size, 3, none⟩ = false := (f1 _ _ (by omega)).trans (by go_simp)
  have k1_0_4 : w1.cell? ⟨w.heap.size, 4, none⟩ = some (.int .i64 s) := (c1 _ _ (by omega)).trans (by go_simp)
  have g1_0_4 : w1.frozen? ⟨w.heap.size, 4, none⟩ = false := (f1 _ _ (by omega)).trans (by go_simp)
  have y1_1 : w.heap.size + 1 < w1.heap.size := by omega
  have k1_1_0 : w1.cell? ⟨w.heap.size + 1, 0, none⟩ = some (.int .i64 0) := (c1 _ _ (by omega)).trans (by go_simp)
  have g1_1_0 : w1.frozen? ⟨w.heap.size + 1, 0, none⟩ = false := (f1 _ _ (by omega)).trans (by go_simp)
  have k1_1_1 : w1.cell? ⟨w.heap.size + 1, 1, none⟩ = some (.int .i64 0) := (c1 _ _ (by omega)).trans (by go_simp)
  have g1_1_1 : w1.frozen? ⟨w.heap.size + 1, 1, none⟩ = false := (f1 _ _ (by omega)).trans (by go_simp)
  have k1_1_2 : w1.cell? ⟨w.heap.size + 1, 2, none⟩ = some (.int .i64 0) := (c1 _ _ (by omega)).trans (by go_simp)
  have g1_1_2 : w1.frozen? ⟨w.heap.size + 1, 2, none⟩ = false := (f1 _ _ (by omega)).trans (by go_simp)
  have k1_1_3 : w1.cell? ⟨w.heap.size + 1, 3, none⟩ = some (.int .i64 0) := (c1 _ _ (by omega)).trans (by go_simp)
  have g1_1_3 : w1.frozen? ⟨w.heap.size + 1, 3, none⟩ = false := (f1 _ _ (by omega)).trans (by go_simp)
  have k1_1_4 : w1.cell? ⟨w.heap.size + 1, 4, none⟩ = some (.int .i64 0) := (c1 _ _ (by omega)).trans (by go_simp)
  have g1_1_4 : w1.frozen? ⟨w.heap.size + 1, 4, none⟩ = false := (f1 _ _ (by omega)).trans (by go_simp)
  clear c1 f1
  go_wp2
  refine bodyPost_ret (v := ctl (r + 1) (r + 1) (r + 1) m 0) (by simp [results, Try.results25, go_sem, *]) rfl ⟨rfl, ?_⟩
  repeat (first | with_reducible exact Ext.refl _ | with_reducible assumption | with_reducible refine Ext.alloc ?_ _ | with_reducible refine Ext.drew ?_ | with_reducible refine Ext.drewN ?_ _ | (with_reducible refine Ext.setCell ?_ ?hle _; case hle => (first | (with_reducible exact Nat.le_refl _) | omega | (dsimp only; omega) | (simp only [World.size_alloc]; omega))) | with_reducible refine Ext.trans ?_ (by with_reducible assumption))

set_option maxHeartbeats 400000 in
theorem end_spec_dt (r c k l s m : Int) (hv : vcB r c k l s = true) (hm : (m == 0) = false) (hl : (l == 0) = false) (hd : m < l) (g0 : 1 ≤ r) (g1 : r + 1 < c) (g2 : c ≤ 8) (hm0 : 0 ≤ m) (hm1 : m ≤ 1000000000000) (w : World) :
    Calls Try.prog 25 #[ctl r c k l s, .int .i64 m] w fun e w' => e = .returned (ctl (r + 1) c (r + 1) m 0) ∧ Ext w w' := by
  go_enter Try.func25, Try.ntmps25
  go_wp2_with fail
  refine (valid_spec _ _ _ _ _ _).mono ?_
  rintro e w1 ⟨rfl, b1⟩
  obtain ⟨c1, f1⟩ := b1.cells
  have z1 := b1.size
  try simp only [World.size_alloc] at c1 f1 z1
  have y1_0 : w.heap.size < w1.heap.size := by omega
  have k1_0_0 : w1.cell? ⟨w.heap.size, 0, none⟩ = some (.int .i64 r) := (c1 _ _ (by omega)).trans (by go_simp)
  have g1_0_0 : w1.frozen? ⟨w.heap.size, 0, none⟩ = false := (f1 _ _ (by omega)).trans (by go_simp)
  have k1_0_1 : w1.cell? ⟨w.heap.size, 1, none⟩ = some (.int .i64 c) := (c1 _ _ (by omega)).trans (by go_simp)
  have g1_0_1 : w1.frozen? ⟨w.heap.size, 1, none⟩ = false := (f1 _ _ (by omega)).trans (by go_simp)
  have k1_0_2 : w1.cell? ⟨w.heap.size, 2, none⟩ = some (.int .i64 k) := (c1 _ _ (by omega)).trans (by go_simp)
  have g1_0_2 : w1.frozen? ⟨w.heap.size, 2, none⟩ = false := (f1 _ _ (by omega)).trans (by go_simp)
  have k1_0_3 : w1.cell? ⟨w.heap.size, 3, none⟩ = some (.int .i64 l) := (c1 _ _ (by omega)).trans (by go_simp)
  have g1_0_3 : w1.frozen? ⟨w.heap.size, 3, none⟩ = false := (f1 _ _ (by omega)).trans (by go_simp)
  have k1_0_4 : w1.cell? ⟨w.heap.size, 4, none⟩ = some (.int .i64 s) := (c1 _ _ (by omega)).trans (by go_simp)
  have g1_0_4 : w1.frozen? ⟨w.heap.size, 4, none⟩ = false := (f1 _ _ (by omega)).trans (by go_simp)
  have y1_1 : w.heap.size + 1 < w1.heap.size := by omega
  have k1_1_0 : w1.cell? ⟨w.heap.size + 1, 0, none⟩ = some (.int .i64 0) := (c1 _ _ (by omega)).trans (by go_simp)
  have g1_1_0 : w1.frozen? ⟨w.heap.size + 1, 0, none⟩ = false := (f1 _ _ (by omega)).trans (by go_simp)
  have k1_1_1 : w1.cell? ⟨w.heap.size + 1, 1, none⟩ = some (.int .i64 0) := (c1 _ _ (by omega)).trans (by go_simp)
  have g1_1_1 : w1.frozen? ⟨w.heap.size + 1, 1, none⟩ = false := (f1 _ _ (by omega)).trans (by go_simp)
  have k1_1_2 : w1.cell? ⟨w.heap.size + 1, 2, none⟩ = some (.int .i64 0) := (c1 _ _ (by omega)).trans (by go_simp)
  have g1_1_2 : w1.frozen? ⟨w.heap.size + 1, 2, none⟩ = false := (f1 _ _ (by omega)).trans (by go_simp)
  have k1_1_3 : w1.cell? ⟨w.heap.size + 1, 3, none⟩ = some (.int .i64 0) := (c1 _ _ (by omega)).trans (by go_simp)
  have g1_1_3 : w1.frozen? ⟨w.heap.size + 1, 3, none⟩ = false := (f1 _ _ (by omega)).trans (by go_simp)
  have k1_1_4 : w1.cell? ⟨w.heap.size + 1, 4, none⟩ = some (.int .i64 0) := (c1 _ _ (by omega)).trans (by go_simp)
  have g1_1_4 : w1.frozen? ⟨w.heap.size + 1, 4, none⟩ = false := (f1 _ _ (by omega)).trans (by go_simp)
  clear c1 f1
  go_wp2
  refine bodyPost_ret (v := ctl (r + 1) c (r + 1) m 0) (by simp [results, Try.results25, go_sem, *]) rfl ⟨rfl, ?_⟩
  repeat (first | with_reducible exact Ext.refl _ | with_reducible assumption | with_reducible refine Ext.alloc ?_ _ | with_reducible refine Ext.drew ?_ | with_reducible refine Ext.drewN ?_ _ | (with_reducible refine Ext.setCell ?_ ?hle _; case hle => (first | (with_reducible exact Nat.le_refl _) | omega | (dsimp only; omega) | (simp only [World.size_alloc]; omega))) | with_reducible refine Ext.trans ?_ (by with_reducible assumption))

set_option maxHeartbeats 400000 in
theorem end_spec_h1 (c k l m : Int) (hv : vcB 1 c k l 2 = true) (hm : (m == 0) = false) (hl : (l == 0) = false) (hd : ¬ m < l) (hm0 : 0 ≤ m) (hm1 : m ≤ 1000000000000) (w : World) :
    Calls Try.prog 25 #[ctl 1 c k l 2, .int .i64 m] w fun e w' => e = .returned (ctl 1 c 1 m 0) ∧ Ext w w' := by
  go_enter Try.func25, Try.ntmps25
  go_wp2_with fail
  refine (valid_spec _ _ _ _ _ _).mono ?_
  rintro e w1 ⟨rfl, b1⟩
  obtain ⟨c1, f1⟩ := b1.cells
  have z1 := b1.size
  try simp only [World.size_alloc] at c1 f1 z1
  have y1_0 : w.heap.size < w1.heap.size := by omega
  have k1_0_0 : w1.cell? ⟨w.heap.size, 0, none⟩ = some (.int .i64 1) := (c1 _ _ (by omega)).trans (by go_simp)
  have g1_0_0 : w1.frozen? ⟨w.heap.size, 0, none⟩ = false := (f1 _ _ (by omega)).trans (by go_simp)
  have k1_0_1 : w1.cell? ⟨w.heap.size, 1, none⟩ = some (.int .i64 c) := (c1 _ _ (by omega)).trans (by go_simp)
  have g1_0_1 : w1.frozen? ⟨w.heap.size, 1, none⟩ = false := (f1 _ _ (by omega)).trans (by go_simp)
  have k1_0_2 : w1.cell? ⟨w.heap.size, 2, none⟩ = some (.int .i64 k) := (c1 _ _ (by omega)).trans (by go_simp)
  have g1_0_2 : w1.frozen? ⟨w.heap.size, 2, none⟩ = false := (f1 _ _ (by omega)).trans (by go_simp)
  have k1_0_3 : w1.cell? ⟨w.heap.size, 3, none⟩ = some (.int .i64 l) := (c1 _ _ (by omega)).trans (by go_simp)
  have g1_0_3 : w1.frozen? ⟨w.heap.size, 3, none⟩ = false := (f1 _ _ (by omega)).trans (by go_simp)
  have k1_0_4 : w1.cell? ⟨w.heap.size, 4, none⟩ = some (.int .i64 2) := (c1 _ _ (by omega)).trans (by go_simp)
  have g1_0_4 : w1.frozen? ⟨w.heap.size, 4, none⟩ = false := (f1 _ _ (by omega)).trans (by go_simp)
  have y1_1 : w.heap.size + 1 < w1.heap.size := by omega
  have k1_1_0 : w1.cell? ⟨w.heap.size + 1, 0, none⟩ = some (.int .i64 0) := (c1 _ _ (by omega)).trans (by go_simp)
  have g1_1_0 : w1.frozen? ⟨w.heap.size + 1, 0, none⟩ = false := (f1 _ _ (by omega)).trans (by go_simp)
  have k1_1_1 : w1.cell? ⟨w.heap.size + 1, 1, none⟩ = some (.int .i64 0) := (c1 _ _ (by omega)).trans (by go_simp)
  have g1_1_1 : w1.frozen? ⟨w.heap.size + 1, 1, none⟩ = false := (f1 _ _ (by omega)).trans (by go_simp)
  have k1_1_2 : w1.cell? ⟨w.heap.size + 1, 2, none⟩ = some (.int .i64 0) := (c1 _ _ (by omega)).trans (by go_simp)
  have g1_1_2 : w1.frozen? ⟨w.heap.size + 1, 2, none⟩ = false := (f1 _ _ (by omega)).trans (by go_simp)
  have k1_1_3 : w1.cell? ⟨w.heap.size + 1, 3, none⟩ = some (.int .i64 0) := (c1 _ _ (by omega)).trans (by go_simp)
  have g1_1_3 : w1.frozen? ⟨w.heap.size + 1, 3, none⟩ = false := (f1 _ _ (by omega)).trans (by go_simp)
  have k1_1_4 : w1.cell? ⟨w.heap.size + 1, 4, none⟩ = some (.int .i64 0) := (c1 _ _ (by omega)).trans (by go_simp)
  have g1_1_4 : w1.frozen? ⟨w.heap.size + 1, 4, none⟩ = false := (f1 _ _ (by omega)).trans (by go_simp)
  clear c1 f1
  go_wp2
  refine bodyPost_ret (v := ctl 1 c 1 m 0) (by simp [results, Try.results25, go_sem, *]) rfl ⟨rfl, ?_⟩
  repeat (first | with_reducible exact Ext.refl _ | with_reducible assumption | with_reducible refine Ext.alloc ?_ _ | with_reducible refine Ext.drew ?_ | with_reducible refine Ext.drewN ?_ _ | (with_reducible refine Ext.setCell ?_ ?hle _; case hle => (first | (with_reducible exact Nat.le_refl _) | omega | (dsimp only; omega) | (simp only [World.size_alloc]; omega))) | with_reducible refine Ext.trans ?_ (by with_reducible assumption))

set_option maxHeartbeats 400000 in
theorem end_spec_h2 (c k l m : Int) (hv : vcB 2 c k l 2 = true) (hm : (m == 0) = false) (hl : (l == 0) = false) (hd : ¬ m < l) (hm0 : 0 ≤ m) (hm1 : m ≤ 1000000000000) (w : World) :
    Calls Try.prog 25 #[ctl 2 c k l 2, .int .i64 m] w fun e w' => e = .returned (ctl 1 c 1 m 0) ∧ Ext w w' := by
  go_enter Try.func25, Try.ntmps25
  go_wp2_with fail
  refine (valid_spec _ _ _ _ _ _).mono ?_
  rintro e w1 ⟨rfl, b1⟩
  obtain ⟨c1, f1⟩ := b1.cells
  have z1 := b1.size
  try simp only [World.size_alloc] at c1 f1 z1
  have y1_0 : w.heap.size < w1.heap.size := by omega
  have k1_0_0 : w1.cell? ⟨w.heap.size, 0, none⟩ = some (.int .i64 2) := (c1 _ _ (by omega)).trans (by go_simp)
  have g1_0_0 : w1.frozen? ⟨w.heap.size, 0, none⟩ = false := (f1 _ _ (by omega)).trans (by go_simp)
  have k1_0_1 : w1.cell? ⟨w.heap.size, 1, none⟩ = some (.int .i64 c) := (c1 _ _ (by omega)).trans (by go_simp)
  have g1_0_1 : w1.frozen? ⟨w.heap.size, 1, none⟩ = false := (f1 _ _ (by omega)).trans (by go_simp)
  have k1_0_2 : w1.cell? ⟨w.heap.size, 2, none⟩ = some (.int .i64 k) := (c1 _ _ (by omega)).trans (by go_simp)
  have g1_0_2 : w1.frozen? ⟨w.heap.size, 2, none⟩ = false := (f1 _ _ (by omega)).trans (by go_simp)
  have k1_0_3 : w1.cell? ⟨w.heap.size, 3, none⟩ = some (.int .i64 l) := (c1 _ _ (by omega)).trans (by go_simp)
  have g1_0_3 : w1.frozen? ⟨w.heap.size, 3, none⟩ = false := (f1 _ _ (by omega)).trans (by go_simp)
  have k1_0_4 : w1.cell? ⟨w.heap.size, 4, none⟩ = some (.int .i64 2) := (c1 _ _ (by omega)).trans (by go_simp)
  have g1_0_4 : w1.frozen? ⟨w.heap.size, 4, none⟩ = false := (f1 _ _ (by omega)).trans (by go_simp)
  have y1_1 : w.heap.size + 1 < w1.heap.size := by omega
  have k1_1_0 : w1.cell? ⟨w.heap.size + 1, 0, none⟩ = some (.int .i64 0) := (c1 _ _ (by omega)).trans (by go_simp)
  have g1_1_0 : w1.frozen? ⟨w.heap.size + 1, 0, none⟩ = false := (f1 _ _ (by omega)).trans (by go_simp)
  have k1_1_1 : w1.cell? ⟨w.heap.size + 1, 1, none⟩ = some (.int .i64 0) := (c1 _ _ (by omega)).trans (by go_simp)
  have g1_1_1 : w1.frozen? ⟨w.heap.size + 1, 1, none⟩ = false := (f1 _ _ (by omega)).trans (by go_simp)
  have k1_1_2 : w1.cell? ⟨w.heap.size + 1, 2, none⟩ = some (.int .i64 0) := (c1 _ _ (by omega)).trans (by go_simp)
  have g1_1_2 : w1.frozen? ⟨w.heap.size + 1, 2, none⟩ = false := (f1 _ _ (by omega)).trans (by go_simp)
  have k1_1_3 : w1.cell? ⟨w.heap.size + 1, 3, none⟩ = some (.int .i64 0) := (c1 _ _ (by omega)).trans (by go_simp)
  have g1_1_3 : w1.frozen? ⟨w.heap.size + 1, 3, none⟩ = false := (f1 _ _ (by omega)).trans (by go_simp)
  have k1_1_4 : w1.cell? ⟨w.heap.size + 1, 4, none⟩ = some (.int .i64 0) := (c1 _ _ (by omega)).trans (by go_simp)
  have g1_1_4 : w1.frozen? ⟨w.heap.size + 1, 4, none⟩ = false := (f1 _ _ (by omega)).trans (by go_simp)
  clear c1 f1
  go_wp2
  refine bodyPost_ret (v := ctl 1 c 1 m 0) (by simp [results, Try.results25, go_sem, *]) rfl ⟨rfl, ?_⟩
  repeat (first | with_reducible exact Ext.refl _ | with_reducible assumption | with_reducible refine Ext.alloc ?_ _ | with_reducible refine Ext.drew ?_ | with_reducible refine Ext.drewN ?_ _ | (with_reducible refine Ext.setCell ?_ ?hle _; case hle => (first | (with_reducible exact Nat.le_refl _) | omega | (dsimp only; omega) | (simp only [World.size_alloc]; omega))) | with_reducible refine Ext.trans ?_ (by with_reducible assumption))

set_option maxHeartbeats 400000 in
theorem end_spec_h3 (c k l m : Int) (hv : vcB 3 c k l 2 = true) (hm : (m == 0) = false) (hl : (l == 0) = false) (hd : ¬ m < l) (hm0 : 0 ≤ m) (hm1 : m ≤ 1000000000000) (w : World) :
    Calls Try.prog 25 #[ctl 3 c k l 2, .int .i64 m] w fun e w' => e = .returned (ctl 1 c 1 m 0) ∧ Ext w w' := by
  go_enter Try.func25, Try.ntmps25
  go_wp2_with fail
  refine (valid_spec _ _ _ _ _ _).mono ?_
  rintro e w1 ⟨rfl, b1⟩
  obtain ⟨c1, f1⟩ := b1.cells
  have z1 := b1.size
  try simp only [World.size_alloc] at c1 f1 z1
  have y1_0 : w.heap.size < w1.heap.size := by omega
  have k1_0_0 : w1.cell? ⟨w.heap.size, 0, none⟩ = some (.int .i64 3) := (c1 _ _ (by omega)).trans (by go_simp)
  have g1_0_0 : w1.frozen? ⟨w.heap.size, 0, none⟩ = false := (f1 _ _ (by omega)).trans (by go_simp)
  have k1_0_1 : w1.cell? ⟨w.heap.size, 1, none⟩ = some (.int .i64 c) := (c1 _ _ (by omega)).trans (by go_simp)
  have g1_0_1 : w1.frozen? ⟨w.heap.size, 1, none⟩ = false := (f1 _ _ (by omega)).trans (by go_simp)
  have k1_0_2 : w1.cell? ⟨w.heap.size, 2, none⟩ = some (.int .i64 k) := (c1 _ _ (by omega)).trans (by go_simp)
  have g1_0_2 : w1.frozen? ⟨w.heap.size, 2, none⟩ = false := (f1 _ _ (by omega)).trans (by go_simp)
  have k1_0_3 : w1.cell? ⟨w.heap.size, 3, none⟩ = some (.int .i64 l) := (c1 _ _ (by omega)).trans (by go_simp)
  have g1_0_3 : w1.frozen? ⟨w.heap.size, 3, none⟩ = false := (f1 _ _ (by omega)).trans (by go_simp)
  have k1_0_4 : w1.cell? ⟨w.heap.size, 4, none⟩ = some (.int .i64 2) := (c1 _ _ (by omega)).trans (by go_simp)
  have g1_0_4 : w1.frozen? ⟨w.heap.size, 4, none⟩ = false := (f1 _ _ (by omega)).trans (by go_simp)
  have y1_1 : w.heap.size + 1 < w1.heap.size := by omega
  have k1_1_0 : w1.cell? ⟨w.heap.size + 1, 0, none⟩ = some (.int .i64 0) := (c1 _ _ (by omega)).trans (by go_simp)
  have g1_1_0 : w1.frozen? ⟨w.heap.size + 1, 0, none⟩ = false := (f1 _ _ (by omega)).trans (by go_simp)
  have k1_1_1 : w1.cell? ⟨w.heap.size + 1, 1, none⟩ = some (.int .i64 0) := (c1 _ _ (by omega)).trans (by go_simp)
  have g1_1_1 : w1.frozen? ⟨w.heap.size + 1, 1, none⟩ = false := (f1 _ _ (by omega)).trans (by go_simp)
  have k1_1_2 : w1.cell? ⟨w.heap.size + 1, 2, none⟩ = some (.int .i64 0) := (c1 _ _ (by omega)).trans (by go_simp)
  have g1_1_2 : w1.frozen? ⟨w.heap.size + 1, 2, none⟩ = false := (f1 _ _ (by omega)).trans (by go_simp)
  have k1_1_3 : w1.cell? ⟨w.heap.size + 1, 3, none⟩ = some (.int .i64 0) := (c1 _ _ (by omega)).trans (by go_simp)
  have g1_1_3 : w1.frozen? ⟨w.heap.size + 1, 3, none⟩ = false := (f1 _ _ (by omega)).trans (by go_simp)
  have k1_1_4 : w1.cell? ⟨w.heap.size + 1, 4, none⟩ = some (.int .i64 0) := (c1 _ _ (by omega)).trans (by go_simp)
  have g1_1_4 : w1.frozen? ⟨w.heap.size + 1, 4, none⟩ = false := (f1 _ _ (by omega)).trans (by go_simp)
  clear c1 f1
  go_wp2
  refine bodyPost_ret (v := ctl 1 c 1 m 0) (by simp [results, Try.results25, go_sem, *]) rfl ⟨rfl, ?_⟩
  repeat (first | with_reducible exact Ext.refl _ | with_reducible assumption | with_reducible refine Ext.alloc ?_ _ | with_reducible refine Ext.drew ?_ | with_reducible refine Ext.drewN ?_ _ | (with_reducible refine Ext.setCell ?_ ?hle _; case hle => (first | (with_reducible exact Nat.le_refl _) | omega | (dsimp only; omega) | (simp only [World.size_alloc]; omega))) | with_reducible refine Ext.trans ?_ (by with_reducible assumption))

set_option maxHeartbeats 400000 in
theorem end_spec_h4 (r c k l m : Int) (hv : vcB r c k l 2 = true) (hm : (m == 0) = false) (hl : (l == 0) = false) (hd : ¬ m < l) (hm0 : 0 ≤ m) (hm1 : m ≤ 1000000000000) (hr : 4 ≤ r) (hr8 : r ≤ 8) (w : World) :
    Calls Try.prog 25 #[ctl r c k l 2, .int .i64 m] w fun e w' => e = .returned (ctl (r / 2) c (r / 2) m 0) ∧ Ext w w' := by
  have hq : 2 ≤ r / 2 := by omega
  have hq2 : r / 2 ≤ 4 := by omega
  go_enter Try.func25, Try.ntmps25
  go_wp2_with fail
  refine (valid_spec _ _ _ _ _ _).mono ?_
  rintro e w1 ⟨rfl, b1⟩
  obtain ⟨c1, f1⟩ := b1.cells
  have z1 := b1.size
  try simp only [World.size_alloc] at c1 f1 z1
  have y1_0 : w.heap.size < w1.heap.size := by omega
  have k1_0_0 : w1.cell? ⟨w.heap.size, 0, none⟩ = some (.int .i64 r) := (c1 _ _ (by omega)).trans (by go_simp)
  have g1_0_0 : w1.frozen? ⟨w.heap.size, 0, none⟩ = false := (f1 _ _ (by omega)).trans (by go_simp)
  have k1_0_1 : w1.cell? ⟨w.heap.size, 1, none⟩ = some (.int .i64 c) := (c1 _ _ (by omega)).trans (by go_simp)
  have g1_0_1 : w1.frozen? ⟨w.heap.size, 1, none⟩ = false := (f1 _ _ (by omega)).trans (by go_simp)
  have k1_0_2 : w1.cell? ⟨w.heap.size, 2, none⟩ = some (.int .i64 k) := (c1 _ _ (by omega)).trans (by go_simp)
  have g1_0_2 : w1.frozen? ⟨w.heap.size, 2, none⟩ = false := (f1 _ _ (by omega)).trans (by go_simp)
  have k1_0_3 : w1.cell? ⟨w.heap.size, 3, none⟩ = some (.int .i64 l) := (c1 _ _ (by omega)).trans (by go_simp)
  have g1_0_3 : w1.frozen? ⟨w.heap.size, 3, none⟩ = false := (f1 _ _ (by omega)).trans (by go_simp)
  have k1_0_4 : w1.cell? ⟨w.heap.size, 4, none⟩ = some (.int .i64 2) := (c1 _ _ (by omega)).trans (by go_simp)
  have g1_0_4 : w1.frozen? ⟨w.heap.size, 4, none⟩ = false := (f1 _ _ (by omega)).trans (by go_simp)
  have y1_1 : w.heap.size + 1 < w1.heap.size := by omega
  have k1_1_0 : w1.cell? ⟨w.heap.size + 1, 0, none⟩ = some (.int .i64 0) := (c1 _ _ (by omega)).trans (by go_simp)
  have g1_1_0 : w1.frozen? ⟨w.heap.size + 1, 0, none⟩ = false := (f1 _ _ (by omega)).trans (by go_simp)
  have k1_1_1 : w1.cell? ⟨w.heap.size + 1, 1, none⟩ = some (.int .i64 0) := (c1 _ _ (by omega)).trans (by go_simp)
  have g1_1_1 : w1.frozen? ⟨w.heap.size + 1, 1, none⟩ = false := (f1 _ _ (by omega)).trans (by go_simp)
  have k1_1_2 : w1.cell? ⟨w.heap.size + 1, 2, none⟩ = some (.int .i64 0) := (c1 _ _ (by omega)).trans (by go_simp)
  have g1_1_2 : w1.frozen? ⟨w.heap.size + 1, 2, none⟩ = false := (f1 _ _ (by omega)).trans (by go_simp)
  have k1_1_3 : w1.cell? ⟨w.heap.size + 1, 3, none⟩ = some (.int .i64 0) := (c1 _ _ (by omega)).trans (by go_simp)
  have g1_1_3 : w1.frozen? ⟨w.heap.size + 1, 3, none⟩ = false := (f1 _ _ (by omega)).trans (by go_simp)
  have k1_1_4 : w1.cell? ⟨w.heap.size + 1, 4, none⟩ = some (.int .i64 0) := (c1 _ _ (by omega)).trans (by go_simp)
  have g1_1_4 : w1.frozen? ⟨w.heap.size + 1, 4, none⟩ = false := (f1 _ _ (by omega)).trans (by go_simp)
  clear c1 f1
  go_wp2
  refine bodyPost_ret (v := ctl (r / 2) c (r / 2) m 0) (by simp [results, Try.results25, go_sem, *]) rfl ⟨rfl, ?_⟩
  repeat (first | with_reducible exact Ext.refl _ | with_reducible assumption | with_reducible refine Ext.alloc ?_ _ | with_reducible refine Ext.drew ?_ | with_reducible refine Ext.drewN ?_ _ | (with_reducible refine Ext.setCell ?_ ?hle _; case hle => (first | (with_reducible exact Nat.le_refl _) | omega | (dsimp only; omega) | (simp only [World.size_alloc]; omega))) | with_reducible refine Ext.trans ?_ (by with_reducible assumption))

set_option maxHeartbeats 400000 in
theorem end_spec_k (r c k l s m : Int) (hv : vcB r c k l s = true) (hm : (m == 0) = false) (hl : (l == 0) = false) (hd : ¬ m < l) (hm0 : 0 ≤ m) (hm1 : m ≤ 1000000000000) (hs0 : 0 ≤ s) (hs1 : s ≤ 1) (hs : ((s + 1) == 3) = false) (w : World) :
    Calls Try.prog 25 #[ctl r c k l s, .int .i64 m] w fun e w' => e = .returned (ctl r c r m (s + 1)) ∧ Ext w w' := by
  go_enter Try.func25, Try.ntmps25
  go_wp2_with fail
  refine (valid_spec _ _ _ _ _ _).mono ?_
  rintro e w1 ⟨rfl, b1⟩
  obtain ⟨c1, f1⟩ := b1.cells
  have z1 := b1.size
  try simp only [World.size_alloc] at c1 f1 z1
  have y1_0 : w.heap.size < w1.heap.size := by omega
  have k1_0_0 : w1.cell? ⟨w.heap.size, 0, none⟩ = some (.int .i64 r) := (c1 _ _ (by omega)).trans (by go_simp)
  have g1_0_0 : w1.frozen? ⟨w.heap.size, 0, none⟩ = false := (f1 _ _ (by omega)).trans (by go_simp)
  have k1_0_1 : w1.cell? ⟨w.heap.size, 1, none⟩ = some (.int .i64 c) := (c1 _ _ (by omega)).trans (by go_simp)
  have g1_0_1 : w1.frozen? ⟨w.heap.size, 1, none⟩ = false := (f1 _ _ (by omega)).trans (by go_simp)
  have k1_0_2 : w1.cell? ⟨w.heap.size, 2, none⟩ = some (.int .i64 k) := (c1 _ _ (by omega)).trans (by go_simp)
  have g1_0_2 : w1.frozen? ⟨w.heap.size, 2, none⟩ = false := (f1 _ _ (by omega)).trans (by go_simp)
  have k1_0_3 : w1.cell? ⟨w.heap.size, 3, none⟩ = some (.int .i64 l) := (c1 _ _ (by omega)).trans (by go_simp)
  have g1_0_3 : w1.frozen? ⟨w.heap.size, 3, none⟩ = false := (f1 _ _ (by omega)).trans (by go_simp)
  have k1_0_4 : w1.cell? ⟨w.heap.size, 4, none⟩ = some (.int .i64 s) := (c1 _ _ (by omega)).trans (by go_simp)
  have g1_0_4 : w1.frozen? ⟨w.heap.size, 4, none⟩ = false := (f1 _ _ (by omega)).trans (by go_simp)
  have y1_1 : w.heap.size + 1 < w1.heap.size := by omega
  have k1_1_0 : w1.cell? ⟨w.heap.size + 1, 0, none⟩ = some (.int .i64 0) := (c1 _ _ (by omega)).trans (by go_simp)
  have g1_1_0 : w1.frozen? ⟨w.heap.size + 1, 0, none⟩ = false := (f1 _ _ (by omega)).trans (by go_simp)
  have k1_1_1 : w1.cell? ⟨w.heap.size + 1, 1, none⟩ = some (.int .i64 0) := (c1 _ _ (by omega)).trans (by go_simp)
  have g1_1_1 : w1.frozen? ⟨w.heap.size + 1, 1, none⟩ = false := (f1 _ _ (by omega)).trans (by go_simp)
  have k1_1_2 : w1.cell? ⟨w.heap.size + 1, 2, none⟩ = some (.int .i64 0) := (c1 _ _ (by omega)).trans (by go_simp)
  have g1_1_2 : w1.frozen? ⟨w.heap.size + 1, 2, none⟩ = false := (f1 _ _ (by omega)).trans (by go_simp)
  have k1_1_3 : w1.cell? ⟨w.heap.size + 1, 3, none⟩ = some (.int .i64 0) := (c1 _ _ (by omega)).trans (by go_simp)
  have g1_1_3 : w1.frozen? ⟨w.heap.size + 1, 3, none⟩ = false := (f1 _ _ (by omega)).trans (by go_simp)
  have k1_1_4 : w1.cell? ⟨w.heap.size + 1, 4, none⟩ = some (.int .i64 0) := (c1 _ _ (by omega)).trans (by go_simp)
  have g1_1_4 : w1.frozen? ⟨w.heap.size + 1, 4, none⟩ = false := (f1 _ _ (by omega)).trans (by go_simp)
  clear c1 f1
  go_wp2
  refine bodyPost_ret (v := ctl r c r m (s + 1)) (by simp [results, Try.results25, go_sem, *]) rfl ⟨rfl, ?_⟩
  repeat (first | with_reducible exact Ext.refl _ | with_reducible assumption | with_reducible refine Ext.alloc ?_ _ | with_reducible refine Ext.drew ?_ | with_reducible refine Ext.drewN ?_ _ | (with_reducible refine Ext.setCell ?_ ?hle _; case hle => (first | (with_reducible exact Nat.le_refl _) | omega | (dsimp only; omega) | (simp only [World.size_alloc]; omega))) | with_reducible refine Ext.trans ?_ (by with_reducible assumption))

end Go.Proofs.Ytdekbjaejlhkcaa
