/-
  TakeCredit of the program and of the reference.
-/
import Derived.Test.YtdekbjaejlhkcaaOpenCtl
namespace Go.Proofs.Ytdekbjaejlhkcaa
open Go.ChangeShapes Go.WideShapes Go.ChangeAt Go.RowKit

/-- What TakeCredit returns. -/
def tcv (r c k l s : Int) : Value := if vcB r c k l s = true ∧ k ≠ 0 then .tuple #[ctl r c (k - 1) l s, .bool true] else .tuple #[ctl r c k l s, .bool false]
theorem tcv_no {r c k l s : Int} (h : vcB r c k l s = false) : tcv r c k l s = .tuple #[ctl r c k l s, .bool false] := by simp [tcv, h]
theorem tcv_zero {r c l s : Int} (_ : vcB r c 0 l s = true) : tcv r c 0 l s = .tuple #[ctl r c 0 l s, .bool false] := by simp [tcv]
theorem tcv_yes {r c k l s : Int} (h : vcB r c k l s = true) (hk : k ≠ 0) : tcv r c k l s = .tuple #[ctl r c (k - 1) l s, .bool true] := by simp [tcv, h, hk]
theorem vc_of {r c k l s : Int} (h : vcB r c k l s = true) : 1 ≤ c ∧ c ≤ 8 ∧ 1 ≤ r ∧ r ≤ c ∧ 0 ≤ k ∧ k ≤ r ∧ 0 ≤ l ∧ l ≤ 1000000000000 ∧ 0 ≤ s ∧ s ≤ 2 := by simpa [vcB] using h
theorem tc_pos {r c k l s : Int} (h : vcB r c k l s = true) (hk : k ≠ 0) : 1 ≤ k ∧ k ≤ 8 := by have := vc_of h; omega

set_option maxHeartbeats 800000 in
theorem take_impl (r c k l s : Int) (w : World) :
    Calls Try.prog 22 #[ctl r c k l s] w fun e w' => e = .returned (tcv r c k l s) ∧ Ext w w' := by
  by_cases hv : vcB r c k l s = true
  case neg =>
    have hv' : vcB r c k l s = false := by simpa using hv
    rw [tcv_no hv']
    clear hv
    go_enter Try.func22, Try.ntmps22
    go_wp2_with fail
    refine (valid_impl _ _ _ _ _ _).mono ?_
    rintro e w1 ⟨rfl, b1⟩
    obtain ⟨c1, f1⟩ := b1.cells
    have z1 := b1.size
    try simp only [World.size_alloc] at c1 f1 z1
    have y1_0 : w.heap.size < w1.heap.size := by omega
    have k1_0_0 : w1.cell? ⟨w.heap.size, 0, none⟩ = some (.int .i64 r) := (c1 _ _ (by omega)).trans (by go_simp)
    have g1_0_0 : w1.frozen? ⟨w.heap.size, 0, none⟩ = false := (f1 _ _ (by omega)).trans (by go_simp)
    have k1_0_1 : w1.cell? ⟨w.heap.size, 1, none⟩ = some (.int .i64 c) := (c1 _ _ (by omega)).trans (by go_simp)
    have g1_0_1 : w1.frozen? ⟨w.heap.size, 1, none⟩ = false := (f1 _ _ (by omega)).trans (by go_simp)
    have k1_0_2 : w1.cell? ⟨w.heap.size, 2, none⟩ = some (.int .i64 k) := (c1 _ _ (by omega)).trans (by go_simp)
    have g1_0_2 : w1.frozen? ⟨w.heap.size, 2, none⟩ = false := (f1 _ _ (by omega)).trans (by go_simp)
    have k1_0_3 : w1.cell? ⟨w.heap.size, 3, none⟩ = some (.int .i64 l) := (c1 _ _ (by omega)).trans (by go_simp)
    have g1_0_3 : w1.frozen? ⟨w.heap.size, 3, none⟩ = false := (f1 _ _ (by omega)).trans (by go_simp)
    have k1_0_4 : w1.cell? ⟨w.heap.size, 4, none⟩ = some (.int .i64 s) := (c1 _ _ (by omega)).trans (by go_simp)
    have g1_0_4 : w1.frozen? ⟨w.heap.size, 4, none⟩ = false := (f1 _ _ (by omega)).trans (by go_simp)
    have y1_1 : w.heap.size + 1 < w1.heap.size := by omega
    have k1_1_0 : w1.cell? ⟨w.heap.size + 1, 0, none⟩ = some (.int .i64 0) := (c1 _ _ (by omega)).trans (by go_simp)
    have g1_1_0 : w1.frozen? ⟨w.heap.size + 1, 0, none⟩ = false := (f1 _ _ (by omega)).trans (by go_simp)
    have k1_1_1 : w1.cell? ⟨w.heap.size + 1, 1, none⟩ = some (.int .i64 0) := (c1 _ _ (by omega)).trans (by go_simp)
    have g1_1_1 : w1.frozen? ⟨w.heap.size + 1, 1, none⟩ = false := (f1 _ _ (by omega)).trans (by go_simp)
    have k1_1_2 : w1.cell? ⟨w.heap.size + 1, 2, none⟩ = some (.int .i64 0) := (c1 _ _ (by omega)).trans (by go_simp)
    have g1_1_2 : w1.frozen? ⟨w.heap.size + 1, 2, none⟩ = false := (f1 _ _ (by omega)).trans (by go_simp)
    have k1_1_3 : w1.cell? ⟨w.heap.size + 1, 3, none⟩ = some (.int .i64 0) := (c1 _ _ (by omega)).trans (by go_simp)
    have g1_1_3 : w1.frozen? ⟨w.heap.size + 1, 3, none⟩ = false := (f1 _ _ (by omega)).trans (by go_simp)
    have k1_1_4 : w1.cell? ⟨w.heap.size + 1, 4, none⟩ = some (.int .i64 0) := (c1 _ _ (by omega)).trans (by go_simp)
    have g1_1_4 : w1.frozen? ⟨w.heap.size + 1, 4, none⟩ = false := (f1 _ _ (by omega)).trans (by go_simp)
    clear c1 f1
    go_wp2_with fail
    refine bodyPost_ret (v := .tuple #[ctl r c k l s, .bool false]) (by simp [results, Try.results22, go_sem, *]) rfl ⟨rfl, ?_⟩
    repeat (first | with_reducible exact Ext.refl _ | with_reducible assumption | with_reducible refine Ext.alloc ?_ _ | with_reducible refine Ext.drew ?_ | with_reducible refine Ext.drewN ?_ _ | (with_reducible refine Ext.setCell ?_ ?hle _; case hle => (first | (with_reducible exact Nat.le_refl _) | omega | (dsimp only; omega) | (simp only [World.size_alloc]; omega))) | with_reducible refine Ext.trans ?_ (by with_reducible assumption))
  by_cases hk : k = 0
  case pos =>
    subst hk
    rw [tcv_zero hv]
    go_enter Try.func22, Try.ntmps22
    go_wp2_with fail
    refine (valid_impl _ _ _ _ _ _).mono ?_
    rintro e w1 ⟨rfl, b1⟩
    obtain ⟨c1, f1⟩ := b1.cells
    have z1 := b1.size
    try simp only [World.size_alloc] at c1 f1 z1
    have y1_0 : w.heap.size < w1.heap.size := by omega
    have k1_0_0 : w1.cell? ⟨w.heap.size, 0, none⟩ = some (.int .i64 r) := (c1 _ _ (by omega)).trans (by go_simp)
    have g1_0_0 : w1.frozen? ⟨w.heap.size, 0, none⟩ = false := (f1 _ _ (by omega)).trans (by go_simp)
    have k1_0_1 : w1.cell? ⟨w.heap.size, 1, none⟩ = some (.int .i64 c) := (c1 _ _ (by omega)).trans (by go_simp)
    have g1_0_1 : w1.frozen? ⟨w.heap.size, 1, none⟩ = false := (f1 _ _ (by omega)).trans (by go_simp)
    have k1_0_2 : w1.cell? ⟨w.heap.size, 2, none⟩ = some (.int .i64 0) := (c1 _ _ (by omega)).trans (by go_simp)
    have g1_0_2 : w1.frozen? ⟨w.heap.size, 2, none⟩ = false := (f1 _ _ (by omega)).trans (by go_simp)
    have k1_0_3 : w1.cell? ⟨w.heap.size, 3, none⟩ = some (.int .i64 l) := (c1 _ _ (by omega)).trans (by go_simp)
    have g1_0_3 : w1.frozen? ⟨w.heap.size, 3, none⟩ = false := (f1 _ _ (by omega)).trans (by go_simp)
    have k1_0_4 : w1.cell? ⟨w.heap.size, 4, none⟩ = some (.int .i64 s) := (c1 _ _ (by omega)).trans (by go_simp)
    have g1_0_4 : w1.frozen? ⟨w.heap.size, 4, none⟩ = false := (f1 _ _ (by omega)).trans (by go_simp)
    have y1_1 : w.heap.size + 1 < w1.heap.size := by omega
    have k1_1_0 : w1.cell? ⟨w.heap.size + 1, 0, none⟩ = some (.int .i64 0) := (c1 _ _ (by omega)).trans (by go_simp)
    have g1_1_0 : w1.frozen? ⟨w.heap.size + 1, 0, none⟩ = false := (f1 _ _ (by omega)).trans (by go_simp)
    have k1_1_1 : w1.cell? ⟨w.heap.size + 1, 1, none⟩ = some (.int .i64 0) := (c1 _ _ (by omega)).trans (by go_simp)
    have g1_1_1 : w1.frozen? ⟨w.heap.size + 1, 1, none⟩ = false := (f1 _ _ (by omega)).trans (by go_simp)
    have k1_1_2 : w1.cell? ⟨w.heap.size + 1, 2, none⟩ = some (.int .i64 0) := (c1 _ _ (by omega)).trans (by go_simp)
    have g1_1_2 : w1.frozen? ⟨w.heap.size + 1, 2, none⟩ = false := (f1 _ _ (by omega)).trans (by go_simp)
    have k1_1_3 : w1.cell? ⟨w.heap.size + 1, 3, none⟩ = some (.int .i64 0) := (c1 _ _ (by omega)).trans (by go_simp)
    have g1_1_3 : w1.frozen? ⟨w.heap.size + 1, 3, none⟩ = false := (f1 _ _ (by omega)).trans (by go_simp)
    have k1_1_4 : w1.cell? ⟨w.heap.size + 1, 4, none⟩ = some (.int .i64 0) := (c1 _ _ (by omega)).trans (by go_simp)
    have g1_1_4 : w1.frozen? ⟨w.heap.size + 1, 4, none⟩ = false := (f1 _ _ (by omega)).trans (by go_simp)
    clear c1 f1
    go_wp2_with fail
    refine bodyPost_ret (v := .tuple #[ctl r c 0 l s, .bool false]) (by simp [results, Try.results22, go_sem, *]) rfl ⟨rfl, ?_⟩
    repeat (first | with_reducible exact Ext.refl _ | with_reducible assumption | with_reducible refine Ext.alloc ?_ _ | with_reducible refine Ext.drew ?_ | with_reducible refine Ext.drewN ?_ _ | (with_reducible refine Ext.setCell ?_ ?hle _; case hle => (first | (with_reducible exact Nat.le_refl _) | omega | (dsimp only; omega) | (simp only [World.size_alloc]; omega))) | with_reducible refine Ext.trans ?_ (by with_reducible assumption))
  case neg =>
    obtain ⟨hk1, hk3⟩ := tc_pos hv hk
    rw [tcv_yes hv hk]
    have hk2 : (k == 0) = false := by simpa using hk
    go_enter Try.func22, Try.ntmps22
    go_wp2_with fail
    refine (valid_impl _ _ _ _ _ _).mono ?_
    rintro e w1 ⟨rfl, b1⟩
    obtain ⟨c1, f1⟩ := b1.cells
    have z1 := b1.size
    try simp only [World.size_alloc] at c1 f1 z1
    have y1_0 : w.heap.size < w1.heap.size := by omega
    have k1_0_0 : w1.cell? ⟨w.heap.size, 0, none⟩ = some (.int .i64 r) := (c1 _ _ (by omega)).trans (by go_simp)
    have g1_0_0 : w1.frozen? ⟨w.heap.size, 0, none⟩ = false := (f1 _ _ (by omega)).trans (by go_simp)
    have k1_0_1 : w1.cell? ⟨w.heap.size, 1, none⟩ = some (.int .i64 c) := (c1 _ _ (by omega)).trans (by go_simp)
    have g1_0_1 : w1.frozen? ⟨w.heap.size, 1, none⟩ = false := (f1 _ _ (by omega)).trans (by go_simp)
    have k1_0_2 : w1.cell? ⟨w.heap.size, 2, none⟩ = some (.int .i64 k) := (c1 _ _ (by omega)).trans (by go_simp)
    have g1_0_2 : w1.frozen? ⟨w.heap.size, 2, none⟩ = false := (f1 _ _ (by omega)).trans (by go_simp)
    have k1_0_3 : w1.cell? ⟨w.heap.size, 3, none⟩ = some (.int .i64 l) := (c1 _ _ (by omega)).trans (by go_simp)
    have g1_0_3 : w1.frozen? ⟨w.heap.size, 3, none⟩ = false := (f1 _ _ (by omega)).trans (by go_simp)
    have k1_0_4 : w1.cell? ⟨w.heap.size, 4, none⟩ = some (.int .i64 s) := (c1 _ _ (by omega)).trans (by go_simp)
    have g1_0_4 : w1.frozen? ⟨w.heap.size, 4, none⟩ = false := (f1 _ _ (by omega)).trans (by go_simp)
    have y1_1 : w.heap.size + 1 < w1.heap.size := by omega
    have k1_1_0 : w1.cell? ⟨w.heap.size + 1, 0, none⟩ = some (.int .i64 0) := (c1 _ _ (by omega)).trans (by go_simp)
    have g1_1_0 : w1.frozen? ⟨w.heap.size + 1, 0, none⟩ = false := (f1 _ _ (by omega)).trans (by go_simp)
    have k1_1_1 : w1.cell? ⟨w.heap.size + 1, 1, none⟩ = some (.int .i64 0) := (c1 _ _ (by omega)).trans (by go_simp)
    have g1_1_1 : w1.frozen? ⟨w.heap.size + 1, 1, none⟩ = false := (f1 _ _ (by omega)).trans (by go_simp)
    have k1_1_2 : w1.cell? ⟨w.heap.size + 1, 2, none⟩ = some (.int .i64 0) := (c1 _ _ (by omega)).trans (by go_simp)
    have g1_1_2 : w1.frozen? ⟨w.heap.size + 1, 2, none⟩ = false := (f1 _ _ (by omega)).trans (by go_simp)
    have k1_1_3 : w1.cell? ⟨w.heap.size + 1, 3, none⟩ = some (.int .i64 0) := (c1 _ _ (by omega)).trans (by go_simp)
    have g1_1_3 : w1.frozen? ⟨w.heap.size + 1, 3, none⟩ = false := (f1 _ _ (by omega)).trans (by go_simp)
    have k1_1_4 : w1.cell? ⟨w.heap.size + 1, 4, none⟩ = some (.int .i64 0) := (c1 _ _ (by omega)).trans (by go_simp)
    have g1_1_4 : w1.frozen? ⟨w.heap.size + 1, 4, none⟩ = false := (f1 _ _ (by omega)).trans (by go_simp)
    clear c1 f1
    go_wp2_with fail
    refine bodyPost_ret (v := .tuple #[ctl r c (k - 1) l s, .bool true]) (by simp [results, Try.results22, go_sem, *]) rfl ⟨rfl, ?_⟩
    repeat (first | with_reducible exact Ext.refl _ | with_reducible assumption | with_reducible refine Ext.alloc ?_ _ | with_reducible refine Ext.drew ?_ | with_reducible refine Ext.drewN ?_ _ | (with_reducible refine Ext.setCell ?_ ?hle _; case hle => (first | (with_reducible exact Nat.le_refl _) | omega | (dsimp only; omega) | (simp only [World.size_alloc]; omega))) | with_reducible refine Ext.trans ?_ (by with_reducible assumption))

set_option maxHeartbeats 800000 in
theorem take_spec (r c k l s : Int) (w : World) :
    Calls Try.prog 21 #[ctl r c k l s] w fun e w' => e = .returned (tcv r c k l s) ∧ Ext w w' := by
  by_cases hv : vcB r c k l s = true
  case neg =>
    have hv' : vcB r c k l s = false := by simpa using hv
    rw [tcv_no hv']
    clear hv
    go_enter Try.func21, Try.ntmps21
    go_wp2_with fail
    refine (valid_spec _ _ _ _ _ _).mono ?_
    rintro e w1 ⟨rfl, b1⟩
    obtain ⟨c1, f1⟩ := b1.cells
    have z1 := b1.size
    try simp only [World.size_alloc] at c1 f1 z1
    have y1_0 : w.heap.size < w1.heap.size := by omega
    have k1_0_0 : w1.cell? ⟨w.heap.size, 0, none⟩ = some (.int .i64 r) := (c1 _ _ (by omega)).trans (by go_simp)
    have g1_0_0 : w1.frozen? ⟨w.heap.size, 0, none⟩ = false := (f1 _ _ (by omega)).trans (by go_simp)
    have k1_0_1 : w1.cell? ⟨w.heap.size, 1, none⟩ = some (.int .i64 c) := (c1 _ _ (by omega)).trans (by go_simp)
    have g1_0_1 : w1.frozen? ⟨w.heap.size, 1, none⟩ = false := (f1 _ _ (by omega)).trans (by go_simp)
    have k1_0_2 : w1.cell? ⟨w.heap.size, 2, none⟩ = some (.int .i64 k) := (c1 _ _ (by omega)).trans (by go_simp)
    have g1_0_2 : w1.frozen? ⟨w.heap.size, 2, none⟩ = false := (f1 _ _ (by omega)).trans (by go_simp)
    have k1_0_3 : w1.cell? ⟨w.heap.size, 3, none⟩ = some (.int .i64 l) := (c1 _ _ (by omega)).trans (by go_simp)
    have g1_0_3 : w1.frozen? ⟨w.heap.size, 3, none⟩ = false := (f1 _ _ (by omega)).trans (by go_simp)
    have k1_0_4 : w1.cell? ⟨w.heap.size, 4, none⟩ = some (.int .i64 s) := (c1 _ _ (by omega)).trans (by go_simp)
    have g1_0_4 : w1.frozen? ⟨w.heap.size, 4, none⟩ = false := (f1 _ _ (by omega)).trans (by go_simp)
    have y1_1 : w.heap.size + 1 < w1.heap.size := by omega
    have k1_1_0 : w1.cell? ⟨w.heap.size + 1, 0, none⟩ = some (.int .i64 0) := (c1 _ _ (by omega)).trans (by go_simp)
    have g1_1_0 : w1.frozen? ⟨w.heap.size + 1, 0, none⟩ = false := (f1 _ _ (by omega)).trans (by go_simp)
    have k1_1_1 : w1.cell? ⟨w.heap.size + 1, 1, none⟩ = some (.int .i64 0) := (c1 _ _ (by omega)).trans (by go_simp)
    have g1_1_1 : w1.frozen? ⟨w.heap.size + 1, 1, none⟩ = false := (f1 _ _ (by omega)).trans (by go_simp)
    have k1_1_2 : w1.cell? ⟨w.heap.size + 1, 2, none⟩ = some (.int .i64 0) := (c1 _ _ (by omega)).trans (by go_simp)
    have g1_1_2 : w1.frozen? ⟨w.heap.size + 1, 2, none⟩ = false := (f1 _ _ (by omega)).trans (by go_simp)
    have k1_1_3 : w1.cell? ⟨w.heap.size + 1, 3, none⟩ = some (.int .i64 0) := (c1 _ _ (by omega)).trans (by go_simp)
    have g1_1_3 : w1.frozen? ⟨w.heap.size + 1, 3, none⟩ = false := (f1 _ _ (by omega)).trans (by go_simp)
    have k1_1_4 : w1.cell? ⟨w.heap.size + 1, 4, none⟩ = some (.int .i64 0) := (c1 _ _ (by omega)).trans (by go_simp)
    have g1_1_4 : w1.frozen? ⟨w.heap.size + 1, 4, none⟩ = false := (f1 _ _ (by omega)).trans (by go_simp)
    clear c1 f1
    go_wp2_with fail
    refine bodyPost_ret (v := .tuple #[ctl r c k l s, .bool false]) (by simp [results, Try.results21, go_sem, *]) rfl ⟨rfl, ?_⟩
    repeat (first | with_reducible exact Ext.refl _ | with_reducible assumption | with_reducible refine Ext.alloc ?_ _ | with_reducible refine Ext.drew ?_ | with_reducible refine Ext.drewN ?_ _ | (with_reducible refine Ext.setCell ?_ ?hle _; case hle => (first | (with_reducible exact Nat.le_refl _) | omega | (dsimp only; omega) | (simp only [World.size_alloc]; omega))) | with_reducible refine Ext.trans ?_ (by with_reducible assumption))
  by_cases hk : k = 0
  case pos =>
    subst hk
    rw [tcv_zero hv]
    go_enter Try.func21, Try.ntmps21
    go_wp2_with fail
    refine (valid_spec _ _ _ _ _ _).mono ?_
    rintro e w1 ⟨rfl, b1⟩
    obtain ⟨c1, f1⟩ := b1.cells
    have z1 := b1.size
    try simp only [World.size_alloc] at c1 f1 z1
    have y1_0 : w.heap.size < w1.heap.size := by omega
    have k1_0_0 : w1.cell? ⟨w.heap.size, 0, none⟩ = some (.int .i64 r) := (c1 _ _ (by omega)).trans (by go_simp)
    have g1_0_0 : w1.frozen? ⟨w.heap.size, 0, none⟩ = false := (f1 _ _ (by omega)).trans (by go_simp)
    have k1_0_1 : w1.cell? ⟨w.heap.size, 1, none⟩ = some (.int .i64 c) := (c1 _ _ (by omega)).trans (by go_simp)
    have g1_0_1 : w1.frozen? ⟨w.heap.size, 1, none⟩ = false := (f1 _ _ (by omega)).trans (by go_simp)
    have k1_0_2 : w1.cell? ⟨w.heap.size, 2, none⟩ = some (.int .i64 0) := (c1 _ _ (by omega)).trans (by go_simp)
    have g1_0_2 : w1.frozen? ⟨w.heap.size, 2, none⟩ = false := (f1 _ _ (by omega)).trans (by go_simp)
    have k1_0_3 : w1.cell? ⟨w.heap.size, 3, none⟩ = some (.int .i64 l) := (c1 _ _ (by omega)).trans (by go_simp)
    have g1_0_3 : w1.frozen? ⟨w.heap.size, 3, none⟩ = false := (f1 _ _ (by omega)).trans (by go_simp)
    have k1_0_4 : w1.cell? ⟨w.heap.size, 4, none⟩ = some (.int .i64 s) := (c1 _ _ (by omega)).trans (by go_simp)
    have g1_0_4 : w1.frozen? ⟨w.heap.size, 4, none⟩ = false := (f1 _ _ (by omega)).trans (by go_simp)
    have y1_1 : w.heap.size + 1 < w1.heap.size := by omega
    have k1_1_0 : w1.cell? ⟨w.heap.size + 1, 0, none⟩ = some (.int .i64 0) := (c1 _ _ (by omega)).trans (by go_simp)
    have g1_1_0 : w1.frozen? ⟨w.heap.size + 1, 0, none⟩ = false := (f1 _ _ (by omega)).trans (by go_simp)
    have k1_1_1 : w1.cell? ⟨w.heap.size + 1, 1, none⟩ = some (.int .i64 0) := (c1 _ _ (by omega)).trans (by go_simp)
    have g1_1_1 : w1.frozen? ⟨w.heap.size + 1, 1, none⟩ = false := (f1 _ _ (by omega)).trans (by go_simp)
    have k1_1_2 : w1.cell? ⟨w.heap.size + 1, 2, none⟩ = some (.int .i64 0) := (c1 _ _ (by omega)).trans (by go_simp)
    have g1_1_2 : w1.frozen? ⟨w.heap.size + 1, 2, none⟩ = false := (f1 _ _ (by omega)).trans (by go_simp)
    have k1_1_3 : w1.cell? ⟨w.heap.size + 1, 3, none⟩ = some (.int .i64 0) := (c1 _ _ (by omega)).trans (by go_simp)
    have g1_1_3 : w1.frozen? ⟨w.heap.size + 1, 3, none⟩ = false := (f1 _ _ (by omega)).trans (by go_simp)
    have k1_1_4 : w1.cell? ⟨w.heap.size + 1, 4, none⟩ = some (.int .i64 0) := (c1 _ _ (by omega)).trans (by go_simp)
    have g1_1_4 : w1.frozen? ⟨w.heap.size + 1, 4, none⟩ = false := (f1 _ _ (by omega)).trans (by go_simp)
    clear c1 f1
    go_wp2_with fail
    refine bodyPost_ret (v := .tuple #[ctl r c 0 l s, .bool false]) (by simp [results, Try.results21, go_sem, *]) rfl ⟨rfl, ?_⟩
    repeat (first | with_reducible exact Ext.refl _ | with_reducible assumption | with_reducible refine Ext.alloc ?_ _ | with_reducible refine Ext.drew ?_ | with_reducible refine Ext.drewN ?_ _ | (with_reducible refine Ext.setCell ?_ ?hle _; case hle => (first | (with_reducible exact Nat.le_refl _) | omega | (dsimp only; omega) | (simp only [World.size_alloc]; omega))) | with_reducible refine Ext.trans ?_ (by with_reducible assumption))
  case neg =>
    obtain ⟨hk1, hk3⟩ := tc_pos hv hk
    rw [tcv_yes hv hk]
    have hk2 : (k == 0) = false := by simpa using hk
    go_enter Try.func21, Try.ntmps21
    go_wp2_with fail
    refine (valid_spec _ _ _ _ _ _).mono ?_
    rintro e w1 ⟨rfl, b1⟩
    obtain ⟨c1, f1⟩ := b1.cells
    have z1 := b1.size
    try simp only [World.size_alloc] at c1 f1 z1
    have y1_0 : w.heap.size < w1.heap.size := by omega
    have k1_0_0 : w1.cell? ⟨w.heap.size, 0, none⟩ = some (.int .i64 r) := (c1 _ _ (by omega)).trans (by go_simp)
    have g1_0_0 : w1.frozen? ⟨w.heap.size, 0, none⟩ = false := (f1 _ _ (by omega)).trans (by go_simp)
    have k1_0_1 : w1.cell? ⟨w.heap.size, 1, none⟩ = some (.int .i64 c) := (c1 _ _ (by omega)).trans (by go_simp)
    have g1_0_1 : w1.frozen? ⟨w.heap.size, 1, none⟩ = false := (f1 _ _ (by omega)).trans (by go_simp)
    have k1_0_2 : w1.cell? ⟨w.heap.size, 2, none⟩ = some (.int .i64 k) := (c1 _ _ (by omega)).trans (by go_simp)
    have g1_0_2 : w1.frozen? ⟨w.heap.size, 2, none⟩ = false := (f1 _ _ (by omega)).trans (by go_simp)
    have k1_0_3 : w1.cell? ⟨w.heap.size, 3, none⟩ = some (.int .i64 l) := (c1 _ _ (by omega)).trans (by go_simp)
    have g1_0_3 : w1.frozen? ⟨w.heap.size, 3, none⟩ = false := (f1 _ _ (by omega)).trans (by go_simp)
    have k1_0_4 : w1.cell? ⟨w.heap.size, 4, none⟩ = some (.int .i64 s) := (c1 _ _ (by omega)).trans (by go_simp)
    have g1_0_4 : w1.frozen? ⟨w.heap.size, 4, none⟩ = false := (f1 _ _ (by omega)).trans (by go_simp)
    have y1_1 : w.heap.size + 1 < w1.heap.size := by omega
    have k1_1_0 : w1.cell? ⟨w.heap.size + 1, 0, none⟩ = some (.int .i64 0) := (c1 _ _ (by omega)).trans (by go_simp)
    have g1_1_0 : w1.frozen? ⟨w.heap.size + 1, 0, none⟩ = false := (f1 _ _ (by omega)).trans (by go_simp)
    have k1_1_1 : w1.cell? ⟨w.heap.size + 1, 1, none⟩ = some (.int .i64 0) := (c1 _ _ (by omega)).trans (by go_simp)
    have g1_1_1 : w1.frozen? ⟨w.heap.size + 1, 1, none⟩ = false := (f1 _ _ (by omega)).trans (by go_simp)
    have k1_1_2 : w1.cell? ⟨w.heap.size + 1, 2, none⟩ = some (.int .i64 0) := (c1 _ _ (by omega)).trans (by go_simp)
    have g1_1_2 : w1.frozen? ⟨w.heap.size + 1, 2, none⟩ = false := (f1 _ _ (by omega)).trans (by go_simp)
    have k1_1_3 : w1.cell? ⟨w.heap.size + 1, 3, none⟩ = some (.int .i64 0) := (c1 _ _ (by omega)).trans (by go_simp)
    have g1_1_3 : w1.frozen? ⟨w.heap.size + 1, 3, none⟩ = false := (f1 _ _ (by omega)).trans (by go_simp)
    have k1_1_4 : w1.cell? ⟨w.heap.size + 1, 4, none⟩ = some (.int .i64 0) := (c1 _ _ (by omega)).trans (by go_simp)
    have g1_1_4 : w1.frozen? ⟨w.heap.size + 1, 4, none⟩ = false := (f1 _ _ (by omega)).trans (by go_simp)
    clear c1 f1
    go_wp2_with fail
    refine bodyPost_ret (v := .tuple #[ctl r c (k - 1) l s, .bool true]) (by simp [results, Try.results21, go_sem, *]) rfl ⟨rfl, ?_⟩
    repeat (first | with_reducible exact Ext.refl _ | with_reducible assumption | with_reducible refine Ext.alloc ?_ _ | with_reducible refine Ext.drew ?_ | with_reducible refine Ext.drewN ?_ _ | (with_reducible refine Ext.setCell ?_ ?hle _; case hle => (first | (with_reducible exact Nat.le_refl _) | omega | (dsimp only; omega) | (simp only [World.size_alloc]; omega))) | with_reducible refine Ext.trans ?_ (by with_reducible assumption))

end Go.Proofs.Ytdekbjaejlhkcaa
