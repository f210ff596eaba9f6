/-
  NewRateControl of the program and of the reference.
-/
import Derived.Test.YtdekbjaejlhkcaaEqCtl
namespace Go.Proofs.Ytdekbjaejlhkcaa
open Go.ChangeShapes Go.WideShapes Go.ChangeAt Go.RowKit

/-- The ceiling of a new control. -/
def ncv (c : Int) : Int := if 1 ≤ c ∧ c ≤ 8 then c else 8
set_option maxHeartbeats 400000 in
theorem new_impl (c : Int) (w : World) :
    Calls Try.prog 17 #[.int .i64 c] w fun e w' => e = .returned (ctl 1 (ncv c) 1 0 0) ∧ Ext w w' := by
  by_cases h0 : 1 ≤ c
  case neg =>
    rw [show ncv c = 8 by simp [ncv]; omega]
    go_enter Try.func17, Try.ntmps17
    go_wp2
    refine bodyPost_ret (v := ctl 1 8 1 0 0) (by simp [results, Try.results17, go_sem]) rfl ⟨rfl, ?_⟩
    repeat (first | with_reducible exact Ext.refl _ | with_reducible assumption | with_reducible refine Ext.alloc ?_ _ | with_reducible refine Ext.drew ?_ | with_reducible refine Ext.drewN ?_ _ | (with_reducible refine Ext.setCell ?_ ?hle _; case hle => (first | (with_reducible exact Nat.le_refl _) | omega | (dsimp only; omega) | (simp only [World.size_alloc]; omega))) | with_reducible refine Ext.trans ?_ (by with_reducible assumption))
  by_cases h1 : c ≤ 8
  case neg =>
    rw [show ncv c = 8 by simp [ncv]; omega]
    go_enter Try.func17, Try.ntmps17
    go_wp2
    refine bodyPost_ret (v := ctl 1 8 1 0 0) (by simp [results, Try.results17, go_sem]) rfl ⟨rfl, ?_⟩
    repeat (first | with_reducible exact Ext.refl _ | with_reducible assumption | with_reducible refine Ext.alloc ?_ _ | with_reducible refine Ext.drew ?_ | with_reducible refine Ext.drewN ?_ _ | (with_reducible refine Ext.setCell ?_ ?hle _; case hle => (first | (with_reducible exact Nat.le_refl _) | omega | (dsimp only; omega) | (simp only [World.size_alloc]; omega))) | with_reducible refine Ext.trans ?_ (by with_reducible assumption))
  rw [show ncv c = c by simp [ncv]; omega]
  go_enter Try.func17, Try.ntmps17
  go_wp2
  refine bodyPost_ret (v := ctl 1 c 1 0 0) (by simp [results, Try.results17, go_sem]) rfl ⟨rfl, ?_⟩
  repeat (first | with_reducible exact Ext.refl _ | with_reducible assumption | with_reducible refine Ext.alloc ?_ _ | with_reducible refine Ext.drew ?_ | with_reducible refine Ext.drewN ?_ _ | (with_reducible refine Ext.setCell ?_ ?hle _; case hle => (first | (with_reducible exact Nat.le_refl _) | omega | (dsimp only; omega) | (simp only [World.size_alloc]; omega))) | with_reducible refine Ext.trans ?_ (by with_reducible assumption))

set_option maxHeartbeats 400000 in
theorem new_spec (c : Int) (w : World) :
    Calls Try.prog 16 #[.int .i64 c] w fun e w' => e = .returned (ctl 1 (ncv c) 1 0 0) ∧ Ext w w' := by
  by_cases h0 : 1 ≤ c
  case neg =>
    rw [show ncv c = 8 by simp [ncv]; omega]
    go_enter Try.func16, Try.ntmps16
    go_wp2
    refine bodyPost_ret (v := ctl 1 8 1 0 0) (by simp [results, Try.results16, go_sem]) rfl ⟨rfl, ?_⟩
    repeat (first | with_reducible exact Ext.refl _ | with_reducible assumption | with_reducible refine Ext.alloc ?_ _ | with_reducible refine Ext.drew ?_ | with_reducible refine Ext.drewN ?_ _ | (with_reducible refine Ext.setCell ?_ ?hle _; case hle => (first | (with_reducible exact Nat.le_refl _) | omega | (dsimp only; omega) | (simp only [World.size_alloc]; omega))) | with_reducible refine Ext.trans ?_ (by with_reducible assumption))
  by_cases h1 : c ≤ 8
  case neg =>
    rw [show ncv c = 8 by simp [ncv]; omega]
    go_enter Try.func16, Try.ntmps16
    go_wp2
    refine bodyPost_ret (v := ctl 1 8 1 0 0) (by simp [results, Try.results16, go_sem]) rfl ⟨rfl, ?_⟩
    repeat (first | with_reducible exact Ext.refl _ | with_reducible assumption | with_reducible refine Ext.alloc ?_ _ | with_reducible refine Ext.drew ?_ | with_reducible refine Ext.drewN ?_ _ | (with_reducible refine Ext.setCell ?_ ?hle _; case hle => (first | (with_reducible exact Nat.le_refl _) | omega | (dsimp only; omega) | (simp only [World.size_alloc]; omega))) | with_reducible refine Ext.trans ?_ (by with_reducible assumption))
  rw [show ncv c = c by simp [ncv]; omega]
  go_enter Try.func16, Try.ntmps16
  go_wp2
  refine bodyPost_ret (v := ctl 1 c 1 0 0) (by simp [results, Try.results16, go_sem]) rfl ⟨rfl, ?_⟩
  repeat (first | with_reducible exact Ext.refl _ | with_reducible assumption | with_reducible refine Ext.alloc ?_ _ | with_reducible refine Ext.drew ?_ | with_reducible refine Ext.drewN ?_ _ | (with_reducible refine Ext.setCell ?_ ?hle _; case hle => (first | (with_reducible exact Nat.le_refl _) | omega | (dsimp only; omega) | (simp only [World.size_alloc]; omega))) | with_reducible refine Ext.trans ?_ (by with_reducible assumption))

end Go.Proofs.Ytdekbjaejlhkcaa
