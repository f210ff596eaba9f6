/-
  NewPrices of the program and of the reference.
-/
import Derived.Test.YtefkjkbipkcncaaGraphL
import Derived.Test.YtefkjkbipkcncaaPricesL
import Derived.Test.YtefkjkbipkcncaaMade
namespace Go.Proofs.Ytefkjkbipkcncaa
open Go.ChangeShapes Go.WideShapes Go.ChangeAt Go.RowKit
set_option linter.unusedVariables false

set_option maxHeartbeats 800000 in
theorem newp_impl (sz : Int) (A : Option Addr) (n c : Nat) (hn : n ≤ 1048576) (w : World) :
    Calls Try.prog 34 #[.agg #[.int .i64 sz, .slice A n c]] w (NewV (fun v => .agg #[v]) w 3 1 (zerosD n).length (ints (zerosD n))) := by
  have hmk := make_ints n (by omega)
  go_enter Try.func34, Try.ntmps34
  go_wp2
  refine bodyPost_ret (v := .agg #[.slice (some ⟨w.heap.size + 1 + 1, 0, none⟩) n n]) (by simp [results, Try.results34, go_sem]) rfl ?_
  have h := own_made_ints ((w.alloc (.cells #[.int .i64 sz, .slice A n c] 43)).alloc (.cells #[.slice (some ⟨w.heap.size + 1 + 1, 0, none⟩) n n] 51)) n (by omega)
  simp only [World.size_alloc] at h
  refine ⟨_, _, by rw [zerosD_len], ?_, by (repeat (first | with_reducible exact Ext.refl _ | with_reducible assumption | with_reducible refine Ext.alloc ?_ _ | with_reducible refine Ext.drew ?_ | with_reducible refine Ext.drewN ?_ _ | (with_reducible refine Ext.setCell' ?_ ?_ _; (first | (with_reducible exact Nat.le_refl _) | omega | (dsimp only; omega) | (simp only [World.size_alloc]; omega))) | (with_reducible apply Ext.trans'; with_reducible assumption) | exact (Ext.refl _).drew | (refine Ext.drew ?_; assumption)))⟩
  rw [zerosD_len]
  exact h.mono (by omega) (by simp)
set_option maxHeartbeats 800000 in
theorem newp_spec (sz : Int) (A : Option Addr) (n c : Nat) (hn : n ≤ 1048576) (w : World) :
    Calls Try.prog 33 #[.agg #[.int .i64 sz, .slice A n c]] w (NewV (fun v => .agg #[v]) w 3 1 (zerosD n).length (ints (zerosD n))) := by
  have hmk := make_ints n (by omega)
  go_enter Try.func33, Try.ntmps33
  go_wp2
  refine bodyPost_ret (v := .agg #[.slice (some ⟨w.heap.size + 1 + 1, 0, none⟩) n n]) (by simp [results, Try.results33, go_sem]) rfl ?_
  have h := own_made_ints ((w.alloc (.cells #[.int .i64 sz, .slice A n c] 43)).alloc (.cells #[.slice (some ⟨w.heap.size + 1 + 1, 0, none⟩) n n] 51)) n (by omega)
  simp only [World.size_alloc] at h
  refine ⟨_, _, by rw [zerosD_len], ?_, by (repeat (first | with_reducible exact Ext.refl _ | with_reducible assumption | with_reducible refine Ext.alloc ?_ _ | with_reducible refine Ext.drew ?_ | with_reducible refine Ext.drewN ?_ _ | (with_reducible refine Ext.setCell' ?_ ?_ _; (first | (with_reducible exact Nat.le_refl _) | omega | (dsimp only; omega) | (simp only [World.size_alloc]; omega))) | (with_reducible apply Ext.trans'; with_reducible assumption) | exact (Ext.refl _).drew | (refine Ext.drew ?_; assumption)))⟩
  rw [zerosD_len]
  exact h.mono (by omega) (by simp)

end Go.Proofs.Ytefkjkbipkcncaa
