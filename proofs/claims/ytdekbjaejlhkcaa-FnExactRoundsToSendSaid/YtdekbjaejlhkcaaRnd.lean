/-
  RoundsToSend of the program and of the reference.
-/
import Derived.Test.YtdekbjaejlhkcaaTake
namespace Go.Proofs.Ytdekbjaejlhkcaa
open Go.ChangeShapes Go.WideShapes Go.ChangeAt Go.RowKit
set_option linter.unusedVariables false

/-- The rounds that are needed: fuel, the rate, the ceiling, the packets that are left, the rounds so far. -/
def rts : Nat → Int → Int → Int → Int → Int
  | 0, _, _, _, n => n
  | f + 1, r, c, p, n => if p ≤ 0 then n else rts f (min (r + 1) c) c (p - r) (n + 1)
theorem rts_done (f : Nat) (r c p n : Int) (h : p ≤ 0) : rts f r c p n = n := by cases f <;> simp [rts, h]
theorem rts_step (f : Nat) (r c p n : Int) (h : 0 < p) : rts (f + 1) r c p n = rts f (min (r + 1) c) c (p - r) (n + 1) := by
  have h' : ¬ p ≤ 0 := by omega
  simp [rts, h']
/-- What RoundsToSend returns. -/
def rtv (r c k l s p : Int) : Int := if vcB r c k l s = true ∧ 0 ≤ p ∧ p ≤ 10000 then rts p.toNat r c p 0 else -1

set_option maxHeartbeats 1600000 in
theorem rounds_impl (r c k l s : Int) (p : Int) (w : World) :
    Calls Try.prog 20 #[ctl r c k l s, .int .i64 p] w fun e w' => e = .returned (.int .i64 (rtv r c k l s p)) ∧ Ext w w' := by
  by_cases hv : vcB r c k l s = true
  case neg =>
    have hv' : vcB r c k l s = false := by simpa using hv
    rw [show rtv r c k l s p = -1 by simp [rtv, hv']]
    clear hv
    go_enter Try.func20, Try.ntmps20
    go_wp2_with fail
    refine (valid_impl _ _ _ _ _ _).mono ?_
    rintro e w1 ⟨rfl, b1⟩
    obtain ⟨c1, f1⟩ := b1.cells
    have z1 := b1.size
    try simp only [World.size_alloc] at c1 f1 z1
    have y1_0 : w.heap.size < w1.heap.size := by omega
    have k1_0_0 : w1.cell? ⟨w.heap.size, 0, none⟩ = some (.int .i64 r) := (c1 _ _ (by omega)).trans (by go_simp)
    have g1_0_0 : w1.frozen? ⟨w.heap.size, 0, none⟩ = false := (f1 _ _ (by omega)).trans (by go_simp)
    have k1_0_1 : w1.cell? ⟨w.heap.size, 1, none⟩ = some (.int .i64 c) := (c1 _ _ (by omega)).trans (by go_simp)
    have g1_0_1 : w1.frozen? ⟨w.heap.size, 1, none⟩ = false := (f1 _ _ (by omega)).trans (by go_simp)
    have k1_0_2 : w1.cell? ⟨w.heap.size, 2, none⟩ = some (.int .i64 k) := (c1 _ _ (by omega)).trans (by go_simp)
    have g1_0_2 : w1.frozen? ⟨w.heap.size, 2, none⟩ = false := (f1 _ _ (by omega)).trans (by go_simp)
    have k1_0_3 : w1.cell? ⟨w.heap.size, 3, none⟩ = some (.int .i64 l) := (c1 _ _ (by omega)).trans (by go_simp)
    have g1_0_3 : w1.frozen? ⟨w.heap.size, 3, none⟩ = false := (f1 _ _ (by omega)).trans (by go_simp)
    have k1_0_4 : w1.cell? ⟨w.heap.size, 4, none⟩ = some (.int .i64 s) := (c1 _ _ (by omega)).trans (by go_simp)
    have g1_0_4 : w1.frozen? ⟨w.heap.size, 4, none⟩ = false := (f1 _ _ (by omega)).trans (by go_simp)
    clear c1 f1
    go_wp2
    go_ret
    refine ⟨rfl, ?_⟩
    repeat (first | with_reducible exact Ext.refl _ | with_reducible assumption | with_reducible refine Ext.alloc ?_ _ | with_reducible refine Ext.drew ?_ | with_reducible refine Ext.drewN ?_ _ | (with_reducible refine Ext.setCell ?_ ?hle _; case hle => (first | (with_reducible exact Nat.le_refl _) | omega | (dsimp only; omega) | (simp only [World.size_alloc]; omega))) | with_reducible refine Ext.trans ?_ (by with_reducible assumption))
  by_cases h0 : 0 ≤ p
  case neg =>
    rw [show rtv r c k l s p = -1 by simp [rtv, h0]]
    go_enter Try.func20, Try.ntmps20
    go_wp2_with fail
    refine (valid_impl _ _ _ _ _ _).mono ?_
    rintro e w1 ⟨rfl, b1⟩
    obtain ⟨c1, f1⟩ := b1.cells
    have z1 := b1.size
    try simp only [World.size_alloc] at c1 f1 z1
    have y1_0 : w.heap.size < w1.heap.size := by omega
    have k1_0_0 : w1.cell? ⟨w.heap.size, 0, none⟩ = some (.int .i64 r) := (c1 _ _ (by omega)).trans (by go_simp)
    have g1_0_0 : w1.frozen? ⟨w.heap.size, 0, none⟩ = false := (f1 _ _ (by omega)).trans (by go_simp)
    have k1_0_1 : w1.cell? ⟨w.heap.size, 1, none⟩ = some (.int .i64 c) := (c1 _ _ (by omega)).trans (by go_simp)
    have g1_0_1 : w1.frozen? ⟨w.heap.size, 1, none⟩ = false := (f1 _ _ (by omega)).trans (by go_simp)
    have k1_0_2 : w1.cell? ⟨w.heap.size, 2, none⟩ = some (.int .i64 k) := (c1 _ _ (by omega)).trans (by go_simp)
    have g1_0_2 : w1.frozen? ⟨w.heap.size, 2, none⟩ = false := (f1 _ _ (by omega)).trans (by go_simp)
    have k1_0_3 : w1.cell? ⟨w.heap.size, 3, none⟩ = some (.int .i64 l) := (c1 _ _ (by omega)).trans (by go_simp)
    have g1_0_3 : w1.frozen? ⟨w.heap.size, 3, none⟩ = false := (f1 _ _ (by omega)).trans (by go_simp)
    have k1_0_4 : w1.cell? ⟨w.heap.size, 4, none⟩ = some (.int .i64 s) := (c1 _ _ (by omega)).trans (by go_simp)
    have g1_0_4 : w1.frozen? ⟨w.heap.size, 4, none⟩ = false := (f1 _ _ (by omega)).trans (by go_simp)
    clear c1 f1
    go_wp2
    go_ret
    refine ⟨rfl, ?_⟩
    repeat (first | with_reducible exact Ext.refl _ | with_reducible assumption | with_reducible refine Ext.alloc ?_ _ | with_reducible refine Ext.drew ?_ | with_reducible refine Ext.drewN ?_ _ | (with_reducible refine Ext.setCell ?_ ?hle _; case hle => (first | (with_reducible exact Nat.le_refl _) | omega | (dsimp only; omega) | (simp only [World.size_alloc]; omega))) | with_reducible refine Ext.trans ?_ (by with_reducible assumption))
  by_cases h1 : p ≤ 10000
  case neg =>
    rw [show rtv r c k l s p = -1 by simp [rtv, h1]]
    have h1' : decide (p ≤ 10000) = false := by simpa using h1
    go_enter Try.func20, Try.ntmps20
    go_wp2_with fail
    refine (valid_impl _ _ _ _ _ _).mono ?_
    rintro e w1 ⟨rfl, b1⟩
    obtain ⟨c1, f1⟩ := b1.cells
    have z1 := b1.size
    try simp only [World.size_alloc] at c1 f1 z1
    have y1_0 : w.heap.size < w1.heap.size := by omega
    have k1_0_0 : w1.cell? ⟨w.heap.size, 0, none⟩ = some (.int .i64 r) := (c1 _ _ (by omega)).trans (by go_simp)
    have g1_0_0 : w1.frozen? ⟨w.heap.size, 0, none⟩ = false := (f1 _ _ (by omega)).trans (by go_simp)
    have k1_0_1 : w1.cell? ⟨w.heap.size, 1, none⟩ = some (.int .i64 c) := (c1 _ _ (by omega)).trans (by go_simp)
    have g1_0_1 : w1.frozen? ⟨w.heap.size, 1, none⟩ = false := (f1 _ _ (by omega)).trans (by go_simp)
    have k1_0_2 : w1.cell? ⟨w.heap.size, 2, none⟩ = some (.int .i64 k) := (c1 _ _ (by omega)).trans (by go_simp)
    have g1_0_2 : w1.frozen? ⟨w.heap.size, 2, none⟩ = false := (f1 _ _ (by omega)).trans (by go_simp)
    have k1_0_3 : w1.cell? ⟨w.heap.size, 3, none⟩ = some (.int .i64 l) := (c1 _ _ (by omega)).trans (by go_simp)
    have g1_0_3 : w1.frozen? ⟨w.heap.size, 3, none⟩ = false := (f1 _ _ (by omega)).trans (by go_simp)
    have k1_0_4 : w1.cell? ⟨w.heap.size, 4, none⟩ = some (.int .i64 s) := (c1 _ _ (by omega)).trans (by go_simp)
    have g1_0_4 : w1.frozen? ⟨w.heap.size, 4, none⟩ = false := (f1 _ _ (by omega)).trans (by go_simp)
    clear c1 f1
    go_wp2
    go_ret
    refine ⟨rfl, ?_⟩
    repeat (first | with_reducible exact Ext.refl _ | with_reducible assumption | with_reducible refine Ext.alloc ?_ _ | with_reducible refine Ext.drew ?_ | with_reducible refine Ext.drewN ?_ _ | (with_reducible refine Ext.setCell ?_ ?hle _; case hle => (first | (with_reducible exact Nat.le_refl _) | omega | (dsimp only; omega) | (simp only [World.size_alloc]; omega))) | with_reducible refine Ext.trans ?_ (by with_reducible assumption))
  have hfin : rtv r c k l s p = rts p.toNat r c p 0 := by simp [rtv, hv, h0, h1]
  rw [hfin]
  clear hfin
  obtain ⟨v1, v2, v3, v4, v5, v6, v7, v8, v9, v10⟩ := vc_of hv
  obtain ⟨FIN, hF⟩ : ∃ x, rts p.toNat r c p 0 = x := ⟨_, rfl⟩
  rw [hF]
  have HF := Lib.hid hF
  clear hF
  have h1' : decide (p ≤ 10000) = true := by simpa using h1
  go_enter Try.func20, Try.ntmps20
  go_wp2_with fail
  refine (valid_impl _ _ _ _ _ _).mono ?_
  rintro e w1 ⟨rfl, b1⟩
  obtain ⟨c1, f1⟩ := b1.cells
  have z1 := b1.size
  try simp only [World.size_alloc] at c1 f1 z1
  have y1_0 : w.heap.size < w1.heap.size := by omega
  have k1_0_0 : w1.cell? ⟨w.heap.size, 0, none⟩ = some (.int .i64 r) := (c1 _ _ (by omega)).trans (by go_simp)
  have g1_0_0 : w1.frozen? ⟨w.heap.size, 0, none⟩ = false := (f1 _ _ (by omega)).trans (by go_simp)
  have k1_0_1 : w1.cell? ⟨w.heap.size, 1, none⟩ = some (.int .i64 c) := (c1 _ _ (by omega)).trans (by go_simp)
  have g1_0_1 : w1.frozen? ⟨w.heap.size, 1, none⟩ = false := (f1 _ _ (by omega)).trans (by go_simp)
  have k1_0_2 : w1.cell? ⟨w.heap.size, 2, none⟩ = some (.int .i64 k) := (c1 _ _ (by omega)).trans (by go_simp)
  have g1_0_2 : w1.frozen? ⟨w.heap.size, 2, none⟩ = false := (f1 _ _ (by omega)).trans (by go_simp)
  have k1_0_3 : w1.cell? ⟨w.heap.size, 3, none⟩ = some (.int .i64 l) := (c1 _ _ (by omega)).trans (by go_simp)
  have g1_0_3 : w1.frozen? ⟨w.heap.size, 3, none⟩ = false := (f1 _ _ (by omega)).trans (by go_simp)
  have k1_0_4 : w1.cell? ⟨w.heap.size, 4, none⟩ = some (.int .i64 s) := (c1 _ _ (by omega)).trans (by go_simp)
  have g1_0_4 : w1.frozen? ⟨w.heap.size, 4, none⟩ = false := (f1 _ _ (by omega)).trans (by go_simp)
  clear c1 f1
  go_wp2
  go_loop [1, 5, 6] (fun q n t => ∃ (Q N R : Int) (fuel : Nat), q = .int .i64 Q ∧ n = .int .i64 N ∧ t = .int .i64 R ∧ Q ≤ fuel ∧ Q ≤ 10000 ∧ -8 ≤ Q ∧ 1 ≤ R ∧ R ≤ c ∧ 0 ≤ N ∧ N + Q ≤ 10000 ∧ Hid (rts fuel R c Q N = FIN)) (fun q _ _ => (intOf q).toNat)
  case atStart => exact ⟨p, 0, r, p.toNat, rfl, rfl, rfl, by omega, by omega, by omega, by omega, by omega, by omega, by omega, HF⟩
  case round =>
    obtain ⟨Q, N, R, fuel, rfl, rfl, rfl, q1, q2, q3, q4, q5, q6, q7, hH⟩ := hrel
    by_cases hq : 0 < Q
    case neg =>
      have hR : N = FIN := (rts_done fuel R c Q N (by omega)).symm.trans hH.out
      have HR := Lib.hid hR
      clear hR
      go_wp2
      go_ret
      refine ⟨ret_int HR.out, ?_⟩
      repeat (first | with_reducible exact Ext.refl _ | with_reducible assumption | with_reducible refine Ext.alloc ?_ _ | with_reducible refine Ext.drew ?_ | with_reducible refine Ext.drewN ?_ _ | (with_reducible refine Ext.setCell ?_ ?hle _; case hle => (first | (with_reducible exact Nat.le_refl _) | omega | (dsimp only; omega) | (simp only [World.size_alloc]; omega))) | with_reducible refine Ext.trans ?_ (by with_reducible assumption))
    obtain ⟨f', rfl⟩ : ∃ f', fuel = f' + 1 := ⟨fuel - 1, by omega⟩
    have hS : rts f' (min (R + 1) c) c (Q - R) (N + 1) = FIN := (rts_step f' R c Q N hq).symm.trans hH.out
    have HS := Lib.hid hS
    clear hS
    by_cases e1 : c = R
    case pos =>
      have HS' := Lib.hid (show rts f' c c (Q - R) (N + 1) = FIN from by rw [← HS.out, show min (R + 1) c = c by omega])
      have HE := Lib.hid e1
      have e2 : ¬ R + 1 ≤ c := by omega
      clear e1
      go_wp2
      go_round
      case rel => exact ⟨Q - R, N + 1, c, f', rfl, rfl, rfl, by omega, by omega, by omega, by omega, by omega, by omega, by omega, HS'⟩
      case measure => simp [intOf]; omega
    have HS' := Lib.hid (show rts f' (R + 1) c (Q - R) (N + 1) = FIN from by rw [← HS.out, show min (R + 1) c = R + 1 by omega])
    by_cases e3 : R + 1 = c
    case pos =>
      have HC := Lib.hid (show rts f' c c (Q - R) (N + 1) = FIN from by rw [← HS'.out, e3])
      have e4 : ¬ R + 1 < c := by omega
      have e5 : ¬ c < R + 1 := by omega
      clear e3
      go_wp2
      go_round
      case rel => first | exact ⟨Q - R, N + 1, R + 1, f', rfl, rfl, rfl, by omega, by omega, by omega, by omega, by omega, by omega, by omega, HS'⟩ | exact ⟨Q - R, N + 1, c, f', rfl, rfl, rfl, by omega, by omega, by omega, by omega, by omega, by omega, by omega, HC⟩
      case measure => simp [intOf]; omega
    have e4 : R + 1 < c := by omega
    go_wp2
    go_round
    case rel => exact ⟨Q - R, N + 1, R + 1, f', rfl, rfl, rfl, by omega, by omega, by omega, by omega, by omega, by omega, by omega, HS'⟩
    case measure => simp [intOf]; omega

set_option maxHeartbeats 1600000 in
theorem rounds_spec (r c k l s : Int) (p : Int) (w : World) :
    Calls Try.prog 19 #[ctl r c k l s, .int .i64 p] w fun e w' => e = .returned (.int .i64 (rtv r c k l s p)) ∧ Ext w w' := by
  by_cases hv : vcB r c k l s = true
  case neg =>
    have hv' : vcB r c k l s = false := by simpa using hv
    rw [show rtv r c k l s p = -1 by simp [rtv, hv']]
    clear hv
    go_enter Try.func19, Try.ntmps19
    go_wp2_with fail
    refine (valid_spec _ _ _ _ _ _).mono ?_
    rintro e w1 ⟨rfl, b1⟩
    obtain ⟨c1, f1⟩ := b1.cells
    have z1 := b1.size
    try simp only [World.size_alloc] at c1 f1 z1
    have y1_0 : w.heap.size < w1.heap.size := by omega
    have k1_0_0 : w1.cell? ⟨w.heap.size, 0, none⟩ = some (.int .i64 r) := (c1 _ _ (by omega)).trans (by go_simp)
    have g1_0_0 : w1.frozen? ⟨w.heap.size, 0, none⟩ = false := (f1 _ _ (by omega)).trans (by go_simp)
    have k1_0_1 : w1.cell? ⟨w.heap.size, 1, none⟩ = some (.int .i64 c) := (c1 _ _ (by omega)).trans (by go_simp)
    have g1_0_1 : w1.frozen? ⟨w.heap.size, 1, none⟩ = false := (f1 _ _ (by omega)).trans (by go_simp)
    have k1_0_2 : w1.cell? ⟨w.heap.size, 2, none⟩ = some (.int .i64 k) := (c1 _ _ (by omega)).trans (by go_simp)
    have g1_0_2 : w1.frozen? ⟨w.heap.size, 2, none⟩ = false := (f1 _ _ (by omega)).trans (by go_simp)
    have k1_0_3 : w1.cell? ⟨w.heap.size, 3, none⟩ = some (.int .i64 l) := (c1 _ _ (by omega)).trans (by go_simp)
    have g1_0_3 : w1.frozen? ⟨w.heap.size, 3, none⟩ = false := (f1 _ _ (by omega)).trans (by go_simp)
    have k1_0_4 : w1.cell? ⟨w.heap.size, 4, none⟩ = some (.int .i64 s) := (c1 _ _ (by omega)).trans (by go_simp)
    have g1_0_4 : w1.frozen? ⟨w.heap.size, 4, none⟩ = false := (f1 _ _ (by omega)).trans (by go_simp)
    clear c1 f1
    go_wp2
    go_ret
    refine ⟨rfl, ?_⟩
    repeat (first | with_reducible exact Ext.refl _ | with_reducible assumption | with_reducible refine Ext.alloc ?_ _ | with_reducible refine Ext.drew ?_ | with_reducible refine Ext.drewN ?_ _ | (with_reducible refine Ext.setCell ?_ ?hle _; case hle => (first | (with_reducible exact Nat.le_refl _) | omega | (dsimp only; omega) | (simp only [World.size_alloc]; omega))) | with_reducible refine Ext.trans ?_ (by with_reducible assumption))
  by_cases h0 : 0 ≤ p
  case neg =>
    rw [show rtv r c k l s p = -1 by simp [rtv, h0]]
    go_enter Try.func19, Try.ntmps19
    go_wp2_with fail
    refine (valid_spec _ _ _ _ _ _).mono ?_
    rintro e w1 ⟨rfl, b1⟩
    obtain ⟨c1, f1⟩ := b1.cells
    have z1 := b1.size
    try simp only [World.size_alloc] at c1 f1 z1
    have y1_0 : w.heap.size < w1.heap.size := by omega
    have k1_0_0 : w1.cell? ⟨w.heap.size, 0, none⟩ = some (.int .i64 r) := (c1 _ _ (by omega)).trans (by go_simp)
    have g1_0_0 : w1.frozen? ⟨w.heap.size, 0, none⟩ = false := (f1 _ _ (by omega)).trans (by go_simp)
    have k1_0_1 : w1.cell? ⟨w.heap.size, 1, none⟩ = some (.int .i64 c) := (c1 _ _ (by omega)).trans (by go_simp)
    have g1_0_1 : w1.frozen? ⟨w.heap.size, 1, none⟩ = false := (f1 _ _ (by omega)).trans (by go_simp)
    have k1_0_2 : w1.cell? ⟨w.heap.size, 2, none⟩ = some (.int .i64 k) := (c1 _ _ (by omega)).trans (by go_simp)
    have g1_0_2 : w1.frozen? ⟨w.heap.size, 2, none⟩ = false := (f1 _ _ (by omega)).trans (by go_simp)
    have k1_0_3 : w1.cell? ⟨w.heap.size, 3, none⟩ = some (.int .i64 l) := (c1 _ _ (by omega)).trans (by go_simp)
    have g1_0_3 : w1.frozen? ⟨w.heap.size, 3, none⟩ = false := (f1 _ _ (by omega)).trans (by go_simp)
    have k1_0_4 : w1.cell? ⟨w.heap.size, 4, none⟩ = some (.int .i64 s) := (c1 _ _ (by omega)).trans (by go_simp)
    have g1_0_4 : w1.frozen? ⟨w.heap.size, 4, none⟩ = false := (f1 _ _ (by omega)).trans (by go_simp)
    clear c1 f1
    go_wp2
    go_ret
    refine ⟨rfl, ?_⟩
    repeat (first | with_reducible exact Ext.refl _ | with_reducible assumption | with_reducible refine Ext.alloc ?_ _ | with_reducible refine Ext.drew ?_ | with_reducible refine Ext.drewN ?_ _ | (with_reducible refine Ext.setCell ?_ ?hle _; case hle => (first | (with_reducible exact Nat.le_refl _) | omega | (dsimp only; omega) | (simp only [World.size_alloc]; omega))) | with_reducible refine Ext.trans ?_ (by with_reducible assumption))
  by_cases h1 : p ≤ 10000
  case neg =>
    rw [show rtv r c k l s p = -1 by simp [rtv, h1]]
    have h1' : decide (p ≤ 10000) = false := by simpa using h1
    go_enter Try.func19, Try.ntmps19
    go_wp2_with fail
    refine (valid_spec _ _ _ _ _ _).mono ?_
    rintro e w1 ⟨rfl, b1⟩
    obtain ⟨c1, f1⟩ := b1.cells
    have z1 := b1.size
    try simp only [World.size_alloc] at c1 f1 z1
    have y1_0 : w.heap.size < w1.heap.size := by omega
    have k1_0_0 : w1.cell? ⟨w.heap.size, 0, none⟩ = some (.int .i64 r) := (c1 _ _ (by omega)).trans (by go_simp)
    have g1_0_0 : w1.frozen? ⟨w.heap.size, 0, none⟩ = false := (f1 _ _ (by omega)).trans (by go_simp)
    have k1_0_1 : w1.cell? ⟨w.heap.size, 1, none⟩ = some (.int .i64 c) := (c1 _ _ (by omega)).trans (by go_simp)
    have g1_0_1 : w1.frozen? ⟨w.heap.size, 1, none⟩ = false := (f1 _ _ (by omega)).trans (by go_simp)
    have k1_0_2 : w1.cell? ⟨w.heap.size, 2, none⟩ = some (.int .i64 k) := (c1 _ _ (by omega)).trans (by go_simp)
    have g1_0_2 : w1.frozen? ⟨w.heap.size, 2, none⟩ = false := (f1 _ _ (by omega)).trans (by go_simp)
    have k1_0_3 : w1.cell? ⟨w.heap.size, 3, none⟩ = some (.int .i64 l) := (c1 _ _ (by omega)).trans (by go_simp)
    have g1_0_3 : w1.frozen? ⟨w.heap.size, 3, none⟩ = false := (f1 _ _ (by omega)).trans (by go_simp)
    have k1_0_4 : w1.cell? ⟨w.heap.size, 4, none⟩ = some (.int .i64 s) := (c1 _ _ (by omega)).trans (by go_simp)
    have g1_0_4 : w1.frozen? ⟨w.heap.size, 4, none⟩ = false := (f1 _ _ (by omega)).trans (by go_simp)
    clear c1 f1
    go_wp2
    go_ret
    refine ⟨rfl, ?_⟩
    repeat (first | with_reducible exact Ext.refl _ | with_reducible assumption | with_reducible refine Ext.alloc ?_ _ | with_reducible refine Ext.drew ?_ | with_reducible refine Ext.drewN ?_ _ | (with_reducible refine Ext.setCell ?_ ?hle _; case hle => (first | (with_reducible exact Nat.le_refl _) | omega | (dsimp only; omega) | (simp only [World.size_alloc]; omega))) | with_reducible refine Ext.trans ?_ (by with_reducible assumption))
  have hfin : rtv r c k l s p = rts p.toNat r c p 0 := by simp [rtv, hv, h0, h1]
  rw [hfin]
  clear hfin
  obtain ⟨v1, v2, v3, v4, v5, v6, v7, v8, v9, v10⟩ := vc_of hv
  obtain ⟨FIN, hF⟩ : ∃ x, rts p.toNat r c p 0 = x := ⟨_, rfl⟩
  rw [hF]
  have HF := Lib.hid hF
  clear hF
  have h1' : decide (p ≤ 10000) = true := by simpa using h1
  go_enter Try.func19, Try.ntmps19
  go_wp2_with fail
  refine (valid_spec _ _ _ _ _ _).mono ?_
  rintro e w1 ⟨rfl, b1⟩
  obtain ⟨c1, f1⟩ := b1.cells
  have z1 := b1.size
  try simp only [World.size_alloc] at c1 f1 z1
  have y1_0 : w.heap.size < w1.heap.size := by omega
  have k1_0_0 : w1.cell? ⟨w.heap.size, 0, none⟩ = some (.int .i64 r) := (c1 _ _ (by omega)).trans (by go_simp)
  have g1_0_0 : w1.frozen? ⟨w.heap.size, 0, none⟩ = false := (f1 _ _ (by omega)).trans (by go_simp)
  have k1_0_1 : w1.cell? ⟨w.heap.size, 1, none⟩ = some (.int .i64 c) := (c1 _ _ (by omega)).trans (by go_simp)
  have g1_0_1 : w1.frozen? ⟨w.heap.size, 1, none⟩ = false := (f1 _ _ (by omega)).trans (by go_simp)
  have k1_0_2 : w1.cell? ⟨w.heap.size, 2, none⟩ = some (.int .i64 k) := (c1 _ _ (by omega)).trans (by go_simp)
  have g1_0_2 : w1.frozen? ⟨w.heap.size, 2, none⟩ = false := (f1 _ _ (by omega)).trans (by go_simp)
  have k1_0_3 : w1.cell? ⟨w.heap.size, 3, none⟩ = some (.int .i64 l) := (c1 _ _ (by omega)).trans (by go_simp)
  have g1_0_3 : w1.frozen? ⟨w.heap.size, 3, none⟩ = false := (f1 _ _ (by omega)).trans (by go_simp)
  have k1_0_4 : w1.cell? ⟨w.heap.size, 4, none⟩ = some (.int .i64 s) := (c1 _ _ (by omega)).trans (by go_simp)
  have g1_0_4 : w1.frozen? ⟨w.heap.size, 4, none⟩ = false := (f1 _ _ (by omega)).trans (by go_simp)
  clear c1 f1
  go_wp2
  go_loop [1, 5, 6] (fun q n t => ∃ (Q N R : Int) (fuel : Nat), q = .int .i64 Q ∧ n = .int .i64 N ∧ t = .int .i64 R ∧ Q ≤ fuel ∧ Q ≤ 10000 ∧ -8 ≤ Q ∧ 1 ≤ R ∧ R ≤ c ∧ 0 ≤ N ∧ N + Q ≤ 10000 ∧ Hid (rts fuel R c Q N = FIN)) (fun q _ _ => (intOf q).toNat)
  case atStart => exact ⟨p, 0, r, p.toNat, rfl, rfl, rfl, by omega, by omega, by omega, by omega, by omega, by omega, by omega, HF⟩
  case round =>
    obtain ⟨Q, N, R, fuel, rfl, rfl, rfl, q1, q2, q3, q4, q5, q6, q7, hH⟩ := hrel
    by_cases hq : 0 < Q
    case neg =>
      have hR : N = FIN := (rts_done fuel R c Q N (by omega)).symm.trans hH.out
      have HR := Lib.hid hR
      clear hR
      go_wp2
      go_ret
      refine ⟨ret_int HR.out, ?_⟩
      repeat (first | with_reducible exact Ext.refl _ | with_reducible assumption | with_reducible refine Ext.alloc ?_ _ | with_reducible refine Ext.drew ?_ | with_reducible refine Ext.drewN ?_ _ | (with_reducible refine Ext.setCell ?_ ?hle _; case hle => (first | (with_reducible exact Nat.le_refl _) | omega | (dsimp only; omega) | (simp only [World.size_alloc]; omega))) | with_reducible refine Ext.trans ?_ (by with_reducible assumption))
    obtain ⟨f', rfl⟩ : ∃ f', fuel = f' + 1 := ⟨fuel - 1, by omega⟩
    have hS : rts f' (min (R + 1) c) c (Q - R) (N + 1) = FIN := (rts_step f' R c Q N hq).symm.trans hH.out
    have HS := Lib.hid hS
    clear hS
    by_cases e1 : c = R
    case pos =>
      have HS' := Lib.hid (show rts f' c c (Q - R) (N + 1) = FIN from by rw [← HS.out, show min (R + 1) c = c by omega])
      have HE := Lib.hid e1
      have e2 : ¬ R + 1 ≤ c := by omega
      clear e1
      go_wp2
      go_round
      case rel => exact ⟨Q - R, N + 1, c, f', rfl, rfl, rfl, by omega, by omega, by omega, by omega, by omega, by omega, by omega, HS'⟩
      case measure => simp [intOf]; omega
    have HS' := Lib.hid (show rts f' (R + 1) c (Q - R) (N + 1) = FIN from by rw [← HS.out, show min (R + 1) c = R + 1 by omega])
    by_cases e3 : R + 1 = c
    case pos =>
      have HC := Lib.hid (show rts f' c c (Q - R) (N + 1) = FIN from by rw [← HS'.out, e3])
      have e4 : ¬ R + 1 < c := by omega
      have e5 : ¬ c < R + 1 := by omega
      clear e3
      go_wp2
      go_round
      case rel => first | exact ⟨Q - R, N + 1, R + 1, f', rfl, rfl, rfl, by omega, by omega, by omega, by omega, by omega, by omega, by omega, HS'⟩ | exact ⟨Q - R, N + 1, c, f', rfl, rfl, rfl, by omega, by omega, by omega, by omega, by omega, by omega, by omega, HC⟩
      case measure => simp [intOf]; omega
    have e4 : R + 1 < c := by omega
    go_wp2
    go_round
    case rel => exact ⟨Q - R, N + 1, R + 1, f', rfl, rfl, rfl, by omega, by omega, by omega, by omega, by omega, by omega, by omega, HS'⟩
    case measure => simp [intOf]; omega

end Go.Proofs.Ytdekbjaejlhkcaa
