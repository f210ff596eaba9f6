/-
  UnwrapKey of the program and of the reference.
-/
import Derived.Test.YtekelmhlpinimaaKeyed
import Derived.Deep.RegionHeld3
namespace Go.Proofs.Ytekelmhlpinimaa
open Go.ChangeShapes Go.WideShapes Go.ChangeAt Go.RowKit
set_option linter.unusedVariables false

/-- What UnwrapKey returns. -/
def uwv (key ep bx mc : Int) : Value := if mc = khash key [97, ep, bx] then .tuple #[.int .i64 (IntKind.i64.wrap (bx - khash key [95, ep]) % 2147483647), .bool true] else .tuple #[.int .i64 0, .bool false]
theorem mod_impl_e (p q : Int) (h1 : 1 ≤ q) (h2 : q ≤ 1000000000000) (w : World) : Calls Try.prog 68 #[.int .i64 p, .int .i64 q] w fun e w' => e = .returned (.int .i64 (p % q)) ∧ Ext w w' := (mod_impl p q h1 h2 w).mono fun e w' ⟨h, hw⟩ => ⟨h, hw ▸ Ext.refl w⟩
theorem mod_spec_e (p q : Int) (h1 : 1 ≤ q) (h2 : q ≤ 1000000000000) (w : World) : Calls Try.prog 67 #[.int .i64 p, .int .i64 q] w fun e w' => e = .returned (.int .i64 (p % q)) ∧ Ext w w' := (mod_spec p q h1 h2 w).mono fun e w' ⟨h, hw⟩ => ⟨h, hw ▸ Ext.refl w⟩

set_option maxHeartbeats 1600000 in
theorem unwrap_impl (key mb ep bx mc : Int) (w : World) :
    Calls Try.prog 28 #[.int .i64 key, .agg #[.int .i64 mb, .int .i64 ep, .int .i64 bx, .int .i64 mc]] w fun e w' => e = .returned (uwv key ep bx mc) ∧ Ext w w' := by
  obtain ⟨W, hW⟩ : ∃ W, (w.alloc (.cells #[.int .i64 mb, .int .i64 ep, .int .i64 bx, .int .i64 mc] 37)) = W := ⟨_, rfl⟩
  have HW := Lib.hid hW
  have eW : Ext w W := by rw [← hW]; exact (Ext.refl w).alloc _
  have zW : w.heap.size < W.heap.size := by rw [← hW]; simp
  clear hW
  have hc0 : W.cell? ⟨w.heap.size, 0, none⟩ = some (.int .i64 mb) := by rw [← HW.out]; go_simp
  have hc1 : W.cell? ⟨w.heap.size, 1, none⟩ = some (.int .i64 ep) := by rw [← HW.out]; go_simp
  have hc2 : W.cell? ⟨w.heap.size, 2, none⟩ = some (.int .i64 bx) := by rw [← HW.out]; go_simp
  have hc3 : W.cell? ⟨w.heap.size, 3, none⟩ = some (.int .i64 mc) := by rw [← HW.out]; go_simp
  obtain ⟨k1, k2⟩ := khash_bd key [97, ep, bx]
  by_cases hm : mc = khash key [97, ep, bx]
  case neg =>
    have hm' : (mc != khash key [97, ep, bx]) = true := by simpa using hm
    rw [show uwv key ep bx mc = .tuple #[.int .i64 0, .bool false] by simp [uwv, hm]]
    go_enter Try.func28, Try.ntmps28
    go_wp2
    rw [HW.out]
    go_region_held3 (fun w' => (w'.cell? ⟨w.heap.size, 1, none⟩ = some (.int .i64 ep) ∧ w'.cell? ⟨w.heap.size, 2, none⟩ = some (.int .i64 bx) ∧ w'.cell? ⟨w.heap.size, 3, none⟩ = some (.int .i64 mc)) ∧ Ext W w') ((refine keepS ?_ (fun hX => ?_); (focus ((repeat (first | with_reducible exact Ext.refl _ | with_reducible assumption | with_reducible refine Ext.alloc ?_ _ | with_reducible refine Ext.drew ?_ | with_reducible refine Ext.drewN ?_ _ | (with_reducible refine Ext.setCell' ?_ ?_ _; (first | (with_reducible exact Nat.le_refl _) | omega | (dsimp only; omega) | (simp only [World.size_alloc]; omega))) | (with_reducible apply Ext.trans'; with_reducible assumption) | exact (Ext.refl _).drew | (refine Ext.drew ?_; assumption))); done)); (refine ⟨?_, ?_, ?_⟩ <;> (refine (hX.cell _ _ ?_).trans ?_; omega; assumption)))) (first | (go_at_call 59; refine (keyed_impl _ _ 3 3 [97, ep, bx] (by decide) _ ?_).mono ?_; (first | exact Rd.new _ 3 (ints [97, ep, bx]) 3 1 rfl | exact (Rd.new _ 3 (ints [97, ep, bx]) 3 1 rfl).drew); rintro e v1 ⟨rfl, bv1⟩; have xv1 : Ext W v1 := (by (repeat (first | with_reducible exact Ext.refl _ | with_reducible assumption | with_reducible refine Ext.alloc ?_ _ | with_reducible refine Ext.drew ?_ | with_reducible refine Ext.drewN ?_ _ | (with_reducible refine Ext.setCell' ?_ ?_ _; (first | (with_reducible exact Nat.le_refl _) | omega | (dsimp only; omega) | (simp only [World.size_alloc]; omega))) | (with_reducible apply Ext.trans'; with_reducible assumption) | exact (Ext.refl _).drew | (refine Ext.drew ?_; assumption)))); have qv1_0 := (xv1.cell (w.heap.size) 1 (by omega)).trans hc1; have qv1_1 := (xv1.cell (w.heap.size) 2 (by omega)).trans hc2; have qv1_2 := (xv1.cell (w.heap.size) 3 (by omega)).trans hc3))
    go_wp2
    go_ret2
    refine ⟨rfl, ?_⟩
    (repeat (first | with_reducible exact Ext.refl _ | with_reducible assumption | with_reducible refine Ext.alloc ?_ _ | with_reducible refine Ext.drew ?_ | with_reducible refine Ext.drewN ?_ _ | (with_reducible refine Ext.setCell' ?_ ?_ _; (first | (with_reducible exact Nat.le_refl _) | omega | (dsimp only; omega) | (simp only [World.size_alloc]; omega))) | (with_reducible apply Ext.trans'; with_reducible assumption) | exact (Ext.refl _).drew | (refine Ext.drew ?_; assumption)))
  have hm' : (mc != khash key [97, ep, bx]) = false := by simpa using hm
  rw [show uwv key ep bx mc = .tuple #[.int .i64 (IntKind.i64.wrap (bx - khash key [95, ep]) % 2147483647), .bool true] by simp [uwv, hm]]
  have Hm := Lib.hid hm
  clear hm
  go_enter Try.func28, Try.ntmps28
  go_wp2
  rw [HW.out]
  go_region_held3 (fun w' => (w'.cell? ⟨w.heap.size, 1, none⟩ = some (.int .i64 ep) ∧ w'.cell? ⟨w.heap.size, 2, none⟩ = some (.int .i64 bx) ∧ w'.cell? ⟨w.heap.size, 3, none⟩ = some (.int .i64 mc)) ∧ Ext W w') ((refine keepS ?_ (fun hX => ?_); (focus ((repeat (first | with_reducible exact Ext.refl _ | with_reducible assumption | with_reducible refine Ext.alloc ?_ _ | with_reducible refine Ext.drew ?_ | with_reducible refine Ext.drewN ?_ _ | (with_reducible refine Ext.setCell' ?_ ?_ _; (first | (with_reducible exact Nat.le_refl _) | omega | (dsimp only; omega) | (simp only [World.size_alloc]; omega))) | (with_reducible apply Ext.trans'; with_reducible assumption) | exact (Ext.refl _).drew | (refine Ext.drew ?_; assumption))); done)); (refine ⟨?_, ?_, ?_⟩ <;> (refine (hX.cell _ _ ?_).trans ?_; omega; assumption)))) (first | (go_at_call 59; refine (keyed_impl _ _ 3 3 [97, ep, bx] (by decide) _ ?_).mono ?_; (first | exact Rd.new _ 3 (ints [97, ep, bx]) 3 1 rfl | exact (Rd.new _ 3 (ints [97, ep, bx]) 3 1 rfl).drew); rintro e v1 ⟨rfl, bv1⟩; have xv1 : Ext W v1 := (by (repeat (first | with_reducible exact Ext.refl _ | with_reducible assumption | with_reducible refine Ext.alloc ?_ _ | with_reducible refine Ext.drew ?_ | with_reducible refine Ext.drewN ?_ _ | (with_reducible refine Ext.setCell' ?_ ?_ _; (first | (with_reducible exact Nat.le_refl _) | omega | (dsimp only; omega) | (simp only [World.size_alloc]; omega))) | (with_reducible apply Ext.trans'; with_reducible assumption) | exact (Ext.refl _).drew | (refine Ext.drew ?_; assumption)))); have qv1_0 := (xv1.cell (w.heap.size) 1 (by omega)).trans hc1; have qv1_1 := (xv1.cell (w.heap.size) 2 (by omega)).trans hc2; have qv1_2 := (xv1.cell (w.heap.size) 3 (by omega)).trans hc3))
  go_wp2
  have kc2 : v1.cell? ⟨w.heap.size, 2, none⟩ = some (.int .i64 bx) := qv1_1
  have kc1 : v1.cell? ⟨w.heap.size, 1, none⟩ = some (.int .i64 ep) := qv1_0
  have zv : w.heap.size < v1.heap.size := Nat.lt_of_lt_of_le zW xv1.size
  go_region_held3 (fun w' => (w'.cell? ⟨w.heap.size, 1, none⟩ = some (.int .i64 ep) ∧ w'.cell? ⟨w.heap.size, 2, none⟩ = some (.int .i64 bx)) ∧ Ext v1 w') ((refine keepS ?_ (fun hX => ?_); (focus ((repeat (first | with_reducible exact Ext.refl _ | with_reducible assumption | with_reducible refine Ext.alloc ?_ _ | with_reducible refine Ext.drew ?_ | with_reducible refine Ext.drewN ?_ _ | (with_reducible refine Ext.setCell' ?_ ?_ _; (first | (with_reducible exact Nat.le_refl _) | omega | (dsimp only; omega) | (simp only [World.size_alloc]; omega))) | (with_reducible apply Ext.trans'; with_reducible assumption) | exact (Ext.refl _).drew | (refine Ext.drew ?_; assumption))); done)); (refine ⟨?_, ?_⟩ <;> (refine (hX.cell _ _ ?_).trans ?_; omega; assumption)))) (first | (go_at_call 59; refine (keyed_impl _ _ 2 2 [95, ep] (by decide) _ ?_).mono ?_; (first | exact Rd.new _ 3 (ints [95, ep]) 2 1 rfl | exact (Rd.new _ 3 (ints [95, ep]) 2 1 rfl).drew); rintro e v2 ⟨rfl, bv2⟩; have xv2 : Ext v1 v2 := (by (repeat (first | with_reducible exact Ext.refl _ | with_reducible assumption | with_reducible refine Ext.alloc ?_ _ | with_reducible refine Ext.drew ?_ | with_reducible refine Ext.drewN ?_ _ | (with_reducible refine Ext.setCell' ?_ ?_ _; (first | (with_reducible exact Nat.le_refl _) | omega | (dsimp only; omega) | (simp only [World.size_alloc]; omega))) | (with_reducible apply Ext.trans'; with_reducible assumption) | exact (Ext.refl _).drew | (refine Ext.drew ?_; assumption)))); have qv2_0 := (xv2.cell (w.heap.size) 1 (by omega)).trans kc1; have qv2_1 := (xv2.cell (w.heap.size) 2 (by omega)).trans kc2) | (go_at_call 68; refine (mod_impl_e _ _ (by decide) (by decide) _).mono ?_; rintro e v3 ⟨rfl, bv3⟩; have xv3 : Ext v1 v3 := (by (repeat (first | with_reducible exact Ext.refl _ | with_reducible assumption | with_reducible refine Ext.alloc ?_ _ | with_reducible refine Ext.drew ?_ | with_reducible refine Ext.drewN ?_ _ | (with_reducible refine Ext.setCell' ?_ ?_ _; (first | (with_reducible exact Nat.le_refl _) | omega | (dsimp only; omega) | (simp only [World.size_alloc]; omega))) | (with_reducible apply Ext.trans'; with_reducible assumption) | exact (Ext.refl _).drew | (refine Ext.drew ?_; assumption)))); have qv3_0 := (xv3.cell (w.heap.size) 1 (by omega)).trans kc1; have qv3_1 := (xv3.cell (w.heap.size) 2 (by omega)).trans kc2))
  go_wp2
  go_ret2
  refine ⟨rfl, ?_⟩
  (repeat (first | with_reducible exact Ext.refl _ | with_reducible assumption | with_reducible refine Ext.alloc ?_ _ | with_reducible refine Ext.drew ?_ | with_reducible refine Ext.drewN ?_ _ | (with_reducible refine Ext.setCell' ?_ ?_ _; (first | (with_reducible exact Nat.le_refl _) | omega | (dsimp only; omega) | (simp only [World.size_alloc]; omega))) | (with_reducible apply Ext.trans'; with_reducible assumption) | exact (Ext.refl _).drew | (refine Ext.drew ?_; assumption)))

set_option maxHeartbeats 1600000 in
theorem unwrap_spec (key mb ep bx mc : Int) (w : World) :
    Calls Try.prog 26 #[.int .i64 key, .agg #[.int .i64 mb, .int .i64 ep, .int .i64 bx, .int .i64 mc]] w fun e w' => e = .returned (uwv key ep bx mc) ∧ Ext w w' := by
  obtain ⟨W, hW⟩ : ∃ W, (w.alloc (.cells #[.int .i64 mb, .int .i64 ep, .int .i64 bx, .int .i64 mc] 37)) = W := ⟨_, rfl⟩
  have HW := Lib.hid hW
  have eW : Ext w W := by rw [← hW]; exact (Ext.refl w).alloc _
  have zW : w.heap.size < W.heap.size := by rw [← hW]; simp
  clear hW
  have hc0 : W.cell? ⟨w.heap.size, 0, none⟩ = some (.int .i64 mb) := by rw [← HW.out]; go_simp
  have hc1 : W.cell? ⟨w.heap.size, 1, none⟩ = some (.int .i64 ep) := by rw [← HW.out]; go_simp
  have hc2 : W.cell? ⟨w.heap.size, 2, none⟩ = some (.int .i64 bx) := by rw [← HW.out]; go_simp
  have hc3 : W.cell? ⟨w.heap.size, 3, none⟩ = some (.int .i64 mc) := by rw [← HW.out]; go_simp
  obtain ⟨k1, k2⟩ := khash_bd key [97, ep, bx]
  by_cases hm : mc = khash key [97, ep, bx]
  case neg =>
    have hm' : (mc != khash key [97, ep, bx]) = true := by simpa using hm
    rw [show uwv key ep bx mc = .tuple #[.int .i64 0, .bool false] by simp [uwv, hm]]
    go_enter Try.func26, Try.ntmps26
    go_wp2
    rw [HW.out]
    go_region_held3 (fun w' => (w'.cell? ⟨w.heap.size, 1, none⟩ = some (.int .i64 ep) ∧ w'.cell? ⟨w.heap.size, 2, none⟩ = some (.int .i64 bx) ∧ w'.cell? ⟨w.heap.size, 3, none⟩ = some (.int .i64 mc)) ∧ Ext W w') ((refine keepS ?_ (fun hX => ?_); (focus ((repeat (first | with_reducible exact Ext.refl _ | with_reducible assumption | with_reducible refine Ext.alloc ?_ _ | with_reducible refine Ext.drew ?_ | with_reducible refine Ext.drewN ?_ _ | (with_reducible refine Ext.setCell' ?_ ?_ _; (first | (with_reducible exact Nat.le_refl _) | omega | (dsimp only; omega) | (simp only [World.size_alloc]; omega))) | (with_reducible apply Ext.trans'; with_reducible assumption) | exact (Ext.refl _).drew | (refine Ext.drew ?_; assumption))); done)); (refine ⟨?_, ?_, ?_⟩ <;> (refine (hX.cell _ _ ?_).trans ?_; omega; assumption)))) (first | (go_at_call 57; refine (keyed_spec _ _ 3 3 [97, ep, bx] (by decide) _ ?_).mono ?_; (first | exact Rd.new _ 3 (ints [97, ep, bx]) 3 1 rfl | exact (Rd.new _ 3 (ints [97, ep, bx]) 3 1 rfl).drew); rintro e v1 ⟨rfl, bv1⟩; have xv1 : Ext W v1 := (by (repeat (first | with_reducible exact Ext.refl _ | with_reducible assumption | with_reducible refine Ext.alloc ?_ _ | with_reducible refine Ext.drew ?_ | with_reducible refine Ext.drewN ?_ _ | (with_reducible refine Ext.setCell' ?_ ?_ _; (first | (with_reducible exact Nat.le_refl _) | omega | (dsimp only; omega) | (simp only [World.size_alloc]; omega))) | (with_reducible apply Ext.trans'; with_reducible assumption) | exact (Ext.refl _).drew | (refine Ext.drew ?_; assumption)))); have qv1_0 := (xv1.cell (w.heap.size) 1 (by omega)).trans hc1; have qv1_1 := (xv1.cell (w.heap.size) 2 (by omega)).trans hc2; have qv1_2 := (xv1.cell (w.heap.size) 3 (by omega)).trans hc3))
    go_wp2
    go_ret2
    refine ⟨rfl, ?_⟩
    (repeat (first | with_reducible exact Ext.refl _ | with_reducible assumption | with_reducible refine Ext.alloc ?_ _ | with_reducible refine Ext.drew ?_ | with_reducible refine Ext.drewN ?_ _ | (with_reducible refine Ext.setCell' ?_ ?_ _; (first | (with_reducible exact Nat.le_refl _) | omega | (dsimp only; omega) | (simp only [World.size_alloc]; omega))) | (with_reducible apply Ext.trans'; with_reducible assumption) | exact (Ext.refl _).drew | (refine Ext.drew ?_; assumption)))
  have hm' : (mc != khash key [97, ep, bx]) = false := by simpa using hm
  rw [show uwv key ep bx mc = .tuple #[.int .i64 (IntKind.i64.wrap (bx - khash key [95, ep]) % 2147483647), .bool true] by simp [uwv, hm]]
  have Hm := Lib.hid hm
  clear hm
  go_enter Try.func26, Try.ntmps26
  go_wp2
  rw [HW.out]
  go_region_held3 (fun w' => (w'.cell? ⟨w.heap.size, 1, none⟩ = some (.int .i64 ep) ∧ w'.cell? ⟨w.heap.size, 2, none⟩ = some (.int .i64 bx) ∧ w'.cell? ⟨w.heap.size, 3, none⟩ = some (.int .i64 mc)) ∧ Ext W w') ((refine keepS ?_ (fun hX => ?_); (focus ((repeat (first | with_reducible exact Ext.refl _ | with_reducible assumption | with_reducible refine Ext.alloc ?_ _ | with_reducible refine Ext.drew ?_ | with_reducible refine Ext.drewN ?_ _ | (with_reducible refine Ext.setCell' ?_ ?_ _; (first | (with_reducible exact Nat.le_refl _) | omega | (dsimp only; omega) | (simp only [World.size_alloc]; omega))) | (with_reducible apply Ext.trans'; with_reducible assumption) | exact (Ext.refl _).drew | (refine Ext.drew ?_; assumption))); done)); (refine ⟨?_, ?_, ?_⟩ <;> (refine (hX.cell _ _ ?_).trans ?_; omega; assumption)))) (first | (go_at_call 57; refine (keyed_spec _ _ 3 3 [97, ep, bx] (by decide) _ ?_).mono ?_; (first | exact Rd.new _ 3 (ints [97, ep, bx]) 3 1 rfl | exact (Rd.new _ 3 (ints [97, ep, bx]) 3 1 rfl).drew); rintro e v1 ⟨rfl, bv1⟩; have xv1 : Ext W v1 := (by (repeat (first | with_reducible exact Ext.refl _ | with_reducible assumption | with_reducible refine Ext.alloc ?_ _ | with_reducible refine Ext.drew ?_ | with_reducible refine Ext.drewN ?_ _ | (with_reducible refine Ext.setCell' ?_ ?_ _; (first | (with_reducible exact Nat.le_refl _) | omega | (dsimp only; omega) | (simp only [World.size_alloc]; omega))) | (with_reducible apply Ext.trans'; with_reducible assumption) | exact (Ext.refl _).drew | (refine Ext.drew ?_; assumption)))); have qv1_0 := (xv1.cell (w.heap.size) 1 (by omega)).trans hc1; have qv1_1 := (xv1.cell (w.heap.size) 2 (by omega)).trans hc2; have qv1_2 := (xv1.cell (w.heap.size) 3 (by omega)).trans hc3))
  go_wp2
  have kc2 : v1.cell? ⟨w.heap.size, 2, none⟩ = some (.int .i64 bx) := qv1_1
  have kc1 : v1.cell? ⟨w.heap.size, 1, none⟩ = some (.int .i64 ep) := qv1_0
  have zv : w.heap.size < v1.heap.size := Nat.lt_of_lt_of_le zW xv1.size
  go_region_held3 (fun w' => (w'.cell? ⟨w.heap.size, 1, none⟩ = some (.int .i64 ep) ∧ w'.cell? ⟨w.heap.size, 2, none⟩ = some (.int .i64 bx)) ∧ Ext v1 w') ((refine keepS ?_ (fun hX => ?_); (focus ((repeat (first | with_reducible exact Ext.refl _ | with_reducible assumption | with_reducible refine Ext.alloc ?_ _ | with_reducible refine Ext.drew ?_ | with_reducible refine Ext.drewN ?_ _ | (with_reducible refine Ext.setCell' ?_ ?_ _; (first | (with_reducible exact Nat.le_refl _) | omega | (dsimp only; omega) | (simp only [World.size_alloc]; omega))) | (with_reducible apply Ext.trans'; with_reducible assumption) | exact (Ext.refl _).drew | (refine Ext.drew ?_; assumption))); done)); (refine ⟨?_, ?_⟩ <;> (refine (hX.cell _ _ ?_).trans ?_; omega; assumption)))) (first | (go_at_call 57; refine (keyed_spec _ _ 2 2 [95, ep] (by decide) _ ?_).mono ?_; (first | exact Rd.new _ 3 (ints [95, ep]) 2 1 rfl | exact (Rd.new _ 3 (ints [95, ep]) 2 1 rfl).drew); rintro e v2 ⟨rfl, bv2⟩; have xv2 : Ext v1 v2 := (by (repeat (first | with_reducible exact Ext.refl _ | with_reducible assumption | with_reducible refine Ext.alloc ?_ _ | with_reducible refine Ext.drew ?_ | with_reducible refine Ext.drewN ?_ _ | (with_reducible refine Ext.setCell' ?_ ?_ _; (first | (with_reducible exact Nat.le_refl _) | omega | (dsimp only; omega) | (simp only [World.size_alloc]; omega))) | (with_reducible apply Ext.trans'; with_reducible assumption) | exact (Ext.refl _).drew | (refine Ext.drew ?_; assumption)))); have qv2_0 := (xv2.cell (w.heap.size) 1 (by omega)).trans kc1; have qv2_1 := (xv2.cell (w.heap.size) 2 (by omega)).trans kc2) | (go_at_call 67; refine (mod_spec_e _ _ (by decide) (by decide) _).mono ?_; rintro e v3 ⟨rfl, bv3⟩; have xv3 : Ext v1 v3 := (by (repeat (first | with_reducible exact Ext.refl _ | with_reducible assumption | with_reducible refine Ext.alloc ?_ _ | with_reducible refine Ext.drew ?_ | with_reducible refine Ext.drewN ?_ _ | (with_reducible refine Ext.setCell' ?_ ?_ _; (first | (with_reducible exact Nat.le_refl _) | omega | (dsimp only; omega) | (simp only [World.size_alloc]; omega))) | (with_reducible apply Ext.trans'; with_reducible assumption) | exact (Ext.refl _).drew | (refine Ext.drew ?_; assumption)))); have qv3_0 := (xv3.cell (w.heap.size) 1 (by omega)).trans kc1; have qv3_1 := (xv3.cell (w.heap.size) 2 (by omega)).trans kc2))
  go_wp2
  go_ret2
  refine ⟨rfl, ?_⟩
  (repeat (first | with_reducible exact Ext.refl _ | with_reducible assumption | with_reducible refine Ext.alloc ?_ _ | with_reducible refine Ext.drew ?_ | with_reducible refine Ext.drewN ?_ _ | (with_reducible refine Ext.setCell' ?_ ?_ _; (first | (with_reducible exact Nat.le_refl _) | omega | (dsimp only; omega) | (simp only [World.size_alloc]; omega))) | (with_reducible apply Ext.trans'; with_reducible assumption) | exact (Ext.refl _).drew | (refine Ext.drew ?_; assumption)))

end Go.Proofs.Ytekelmhlpinimaa
