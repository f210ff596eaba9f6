/-
  Prices as an argument of laws.
-/
import Derived.Test.YtefkjkbipkcncaaInts
import Derived.Test.YtefkjkbipkcncaaOpen2
namespace Go.Proofs.Ytefkjkbipkcncaa
open Go.ChangeShapes Go.WideShapes Go.ChangeAt Go.RowKit
set_option linter.unusedVariables false

set_option maxRecDepth 100000 in
theorem open_prices {H : Type} {enc : TypeId × Value → H} {w : World} {base : Nat} {spare : Nat → Bool} {held : Bool} {r : Reach} {b0 : Nat} {v : Value} {d : DataW H} {p : List MemPlace}
    (hv : Value.okWide Try.prog w r b0 65 v) (h : DataW.Trod enc Try.prog w base spare held 65 v d p) :
    ∃ (A : Option Addr) (n c : Nat) (xs : List Int), v = .agg #[.slice A n c] ∧ n ≤ 9223372036854775807 ∧ Rd w 1 A n (ints xs) ∧ ∀ x ∈ xs, I64 x := by
  obtain ⟨cs, k, rfl, hl, hf⟩ := open_struct Try.underlying65 hv h
  rw [show Try.prog.cellsOf 65 = 1 by kernel_rfl] at hl
  obtain ⟨q0, rfl⟩ := len1 hl
  have c1' : Try.prog.cellsOf 3 = 1 := by kernel_rfl
  have c2' : Try.prog.cellsOf 38 = 1 := by kernel_rfl
  obtain ⟨y0, g0⟩ := hf 0 _ rfl
  obtain ⟨A, n, c, xs, e0, h1, h2, h3, h4⟩ := inner_ints Try.underlying38 Try.underlying3 c1' g0
  simp [c2'] at e0
  subst e0
  exact ⟨A, n, c, xs, rfl, by unfold maxLen at h2; omega, h3, h4⟩

/-- A Prices in new memory. -/
def PricesPost (w : World) (n : Nat) (xs : List Int) (e : Ending) (w' : World) : Prop :=
  ∃ g, w.heap.size ≤ g ∧ e = .returned (.agg #[.slice (some ⟨g, 0, none⟩) n n]) ∧ w'.ownsRow w.heap.size 3 1 (.slice (some ⟨g, 0, none⟩) n n) n (ints xs) ∧ Ext w w'

set_option maxHeartbeats 800000 in
theorem to_prices (A : Option Addr) (n c : Nat) (xs : List Int) (hn : n ≤ 1048576) (w : World) (hr : Rd w 1 A n (ints xs)) :
    Calls Try.prog 46 #[.agg #[.slice A n c]] w (PricesPost w n xs) := by
  have e3 : Ext w (((w.alloc (.cells #[.slice A n c] 65)).alloc (.cells #[.slice none 0 0] 51)).alloc (.cells #[.slice none 0 0] 51)) := (((Ext.refl w).alloc _).alloc _).alloc _
  have HR := Lib.hid (hr.ext e3)
  go_enter Try.func46, Try.ntmps46
  go_wp2_with fail
  refine (to_ints _ _ _ _ (by omega) _ HR.out).mono ?_
  rintro e w1 ⟨g, hg, rfl, ho, b1⟩
  have HO := Lib.hid ho
  have hg2 : w.heap.size + 3 ≤ g := by simp only [World.size_alloc] at hg; omega
  clear ho hg
  have e4 := e3.trans b1
  obtain ⟨c1, f1⟩ := b1.cells
  have z1 := b1.size
  try simp only [World.size_alloc] at c1 f1 z1
  have y1_0 : w.heap.size < w1.heap.size := by omega
  have k1_0_0 : w1.cell? ⟨w.heap.size, 0, none⟩ = some (.slice A n c) := (c1 _ _ (by omega)).trans (by first | assumption | go_simp)
  have g1_0_0 : w1.frozen? ⟨w.heap.size, 0, none⟩ = false := (f1 _ _ (by omega)).trans (by go_simp)
  have y1_1 : w.heap.size + 1 < w1.heap.size := by omega
  have k1_1_0 : w1.cell? ⟨w.heap.size + 1, 0, none⟩ = some (.slice none 0 0) := (c1 _ _ (by omega)).trans (by first | assumption | go_simp)
  have g1_1_0 : w1.frozen? ⟨w.heap.size + 1, 0, none⟩ = false := (f1 _ _ (by omega)).trans (by go_simp)
  have y1_2 : w.heap.size + 1 + 1 < w1.heap.size := by omega
  have k1_2_0 : w1.cell? ⟨w.heap.size + 1 + 1, 0, none⟩ = some (.slice none 0 0) := (c1 _ _ (by omega)).trans (by first | assumption | go_simp)
  have g1_2_0 : w1.frozen? ⟨w.heap.size + 1 + 1, 0, none⟩ = false := (f1 _ _ (by omega)).trans (by go_simp)
  clear c1 f1
  go_wp2_with fail
  refine bodyPost_ret (v := .agg #[.slice (some ⟨g, 0, none⟩) n n]) (by simp [results, Try.results46, go_sem, *]) rfl ?_
  refine ⟨g, by omega, rfl, ?_, ?_⟩
  · refine own_lower (base := w.heap.size + 1 + 1 + 1) ?_ (by omega)
    repeat (refine own_set ?_ (by simp [Value.ownBlock]; omega) _)
    have := HO.out
    simpa using this
  · (repeat (first | with_reducible exact Ext.refl _ | with_reducible assumption | with_reducible refine Ext.alloc ?_ _ | with_reducible refine Ext.drew ?_ | with_reducible refine Ext.drewN ?_ _ | (with_reducible refine Ext.setCell' ?_ ?_ _; (first | (with_reducible exact Nat.le_refl _) | omega | (dsimp only; omega) | (simp only [World.size_alloc]; omega))) | (with_reducible apply Ext.trans'; with_reducible assumption) | exact (Ext.refl _).drew | (refine Ext.drew ?_; assumption)))
set_option maxHeartbeats 800000 in
theorem sz_prices (A : Option Addr) (n c : Nat) (hn : n ≤ 9223372036854775807) (l : Int) (hl : l ≤ 1048576) (hl0 : 0 ≤ l) (w : World) :
    Calls Try.prog 44 #[.agg #[.slice A n c], .int .i64 l] w fun e w' => e = .returned (.int .i64 (if l < n then -1 else l - n)) ∧ Ext w w' := by
  by_cases h : l < n
  case pos =>
    rw [if_pos h]
    have hs := fun w' => sz_ints A n c l hl hl0 hn w'
    simp only [if_pos h] at hs
    have HS := Lib.hid hs
    clear hs
    go_enter Try.func44, Try.ntmps44
    go_wp2_with fail
    refine (HS.out _).mono ?_
    rintro e w1 ⟨rfl, rfl⟩
    go_wp2_with fail
    go_ret
    exact ⟨rfl, (Ext.refl w).alloc _⟩
  rw [if_neg h]
  have hln : ¬ l - n < 0 := by omega
  have hs := fun w' => sz_ints A n c l hl hl0 hn w'
  simp only [if_neg h] at hs
  have HS := Lib.hid hs
  clear hs
  go_enter Try.func44, Try.ntmps44
  go_wp2_with fail
  refine (HS.out _).mono ?_
  rintro e w1 ⟨rfl, rfl⟩
  go_wp2_with fail
  go_ret
  exact ⟨rfl, (Ext.refl w).alloc _⟩
set_option maxHeartbeats 800000 in
theorem eq_prices (A B : Option Addr) (n c d : Nat) (xs : List Int) (hn : n ≤ 1048576) (w : World) (ha : Rd w 1 A n (ints xs)) (hb : Rd w 1 B n (ints xs)) :
    Calls Try.prog 35 #[.agg #[.slice A n c], .agg #[.slice B n d]] w fun e w' => e = .returned (.bool true) ∧ Ext w w' := by
  have e2 : Ext w ((w.alloc (.cells #[.slice A n c] 51)).alloc (.cells #[.slice B n d] 51)) := ((Ext.refl w).alloc _).alloc _
  have HA := Lib.hid (ha.ext e2)
  have HB := Lib.hid (hb.ext e2)
  go_enter Try.func35, Try.ntmps35
  go_wp2_with fail
  refine (eq_ints _ _ _ _ _ _ (by omega) _ HA.out HB.out).mono ?_
  rintro e w1 ⟨rfl, b1⟩
  go_wp2_with fail
  go_ret
  exact ⟨rfl, e2.trans b1.ext⟩
set_option maxHeartbeats 800000 in
theorem mark_prices (A : Option Addr) (n c base : Nat) (xs : List Int) (k : Int) (hk0 : 0 ≤ k) (hk : k + n ≤ 4611686018427387904) (w : World) (hown : w.ownsRow base 3 1 (.slice A n c) n (ints xs)) :
    Calls Try.prog 37 #[.agg #[.slice A n c], .int .i64 k] w fun e w' => e = .returned (.int .i64 (k + n)) ∧ w'.ownsRow base 3 1 (.slice A n c) n (ints (upfrom k n)) ∧ w.grownBy w' (Value.slice A n c).ownBlock := by
  have HO := Lib.hid (hown.alloc (.cells #[.slice A n c] 51))
  have eA : w.grownBy (w.alloc (.cells #[.slice A n c] 51)) (Value.slice A n c).ownBlock := only_alloc w _ _
  go_enter Try.func37, Try.ntmps37
  go_wp2_with fail
  refine (mark_ints _ _ _ _ _ hk0 hk _ HO.out).mono ?_
  rintro e w1 ⟨rfl, ho1, hg1⟩
  have HO1 := Lib.hid ho1
  have HG := Lib.hid (eA.trans hg1)
  clear ho1 hg1
  go_wp2_with fail
  go_ret
  exact ⟨rfl, HO1.out, HG.out⟩
set_option maxHeartbeats 800000 in
theorem held_prices (A : Option Addr) (n c : Nat) (k : Int) (hk0 : 0 ≤ k) (hk : k + n ≤ 4611686018427387904) (w : World) (ha : Rd w 1 A n (ints (upfrom k n))) :
    Calls Try.prog 38 #[.agg #[.slice A n c], .int .i64 k] w fun e w' => e = .returned (.int .i64 (k + n)) ∧ Ext w w' := by
  have eA : Ext w (w.alloc (.cells #[.slice A n c] 51)) := (Ext.refl w).alloc _
  have HA := Lib.hid (ha.ext eA)
  have hneg : ¬ k + (n : Int) < 0 := by omega
  go_enter Try.func38, Try.ntmps38
  go_wp2_with fail
  refine (held_ints _ _ _ _ hk0 hk _ HA.out).mono ?_
  rintro e w1 ⟨rfl, b1⟩
  go_wp2_with fail
  go_ret
  exact ⟨rfl, eA.trans b1.ext⟩

end Go.Proofs.Ytefkjkbipkcncaa
