/-
  Groups as arguments of laws: toGroup, eqGroup, szGroup, markGroup.
-/
import Derived.Test.YtekelmhlpinimaaGroup
import Derived.Test.YtekelmhlpinimaaOpen2
namespace Go.Proofs.Ytekelmhlpinimaa
open Go.ChangeShapes Go.WideShapes Go.ChangeAt Go.RowKit
set_option linter.unusedVariables false

theorem open_group {H : Type} {enc : TypeId × Value → H} {w : World} {base : Nat} {spare : Nat → Bool} {held : Bool} {r : Reach} {b0 : Nat} {v : Value} {d : DataW H} {p : List MemPlace}
    (hv : Value.okWide Try.prog w r b0 26 v) (h : DataW.Trod enc Try.prog w base spare held 26 v d p) :
    ∃ (m ep : Int) (A : Option Addr) (n c : Nat) (xs : List Int), v = .agg #[.int .i64 m, .int .i64 ep, .slice A n c] ∧ n ≤ 9223372036854775807 ∧ Rd w 1 A n (ints xs) := by
  obtain ⟨cs, k, rfl, hl, hf⟩ := open_struct Try.underlying26 hv h
  rw [show Try.prog.cellsOf 26 = 3 by kernel_rfl] at hl
  match cs, hl with
  | [c0, c1, c2], _ =>
    have c1' : Try.prog.cellsOf 3 = 1 := by kernel_rfl
    have c2' : Try.prog.cellsOf 24 = 1 := by kernel_rfl
    obtain ⟨y0, g0⟩ := hf 0 _ rfl
    obtain ⟨y1, g1⟩ := hf 1 _ rfl
    obtain ⟨y2, g2⟩ := hf 2 _ rfl
    obtain ⟨a0, e0, _⟩ := inner_int Try.underlying3 g0
    obtain ⟨a1, e1, _⟩ := inner_int Try.underlying3 g1
    obtain ⟨A, n, c, xs, e2, h1, h2, h3, _⟩ := inner_ints Try.underlying24 Try.underlying3 c1' g2
    simp [c1', c2'] at e0 e1 e2
    subst e0 e1 e2
    exact ⟨_, _, A, n, c, xs, rfl, by unfold maxLen at h2; omega, h3⟩

/-- A group in new memory. -/
def GroupPost (w : World) (m ep : Int) (n : Nat) (xs : List Int) (e : Ending) (w' : World) : Prop :=
  ∃ g, w.heap.size ≤ g ∧ e = .returned (.agg #[.int .i64 m, .int .i64 ep, .slice (some ⟨g, 0, none⟩) n n]) ∧ w'.ownsRow w.heap.size 3 1 (.slice (some ⟨g, 0, none⟩) n n) n (ints xs) ∧ Ext w w'

set_option maxHeartbeats 800000 in
theorem to_group (m ep : Int) (A : Option Addr) (n c : Nat) (xs : List Int) (hn : n ≤ 1048576) (w : World) (hr : Rd w 1 A n (ints xs)) :
    Calls Try.prog 23 #[.agg #[.int .i64 m, .int .i64 ep, .slice A n c]] w (GroupPost w m ep n xs) := by
  have e3 : Ext w (((w.alloc (.cells #[.int .i64 m, .int .i64 ep, .slice A n c] 26)).alloc (.cells #[.int .i64 0, .int .i64 0, .slice none 0 0] 29)).alloc (.cells #[.int .i64 m, .int .i64 ep, .slice none 0 0] 29)) := (((Ext.refl w).alloc _).alloc _).alloc _
  have HR := Lib.hid (hr.ext e3)
  go_enter Try.func23, Try.ntmps23
  go_wp2_with fail
  refine (to_ints _ _ _ _ (by omega) _ HR.out).mono ?_
  rintro e w1 ⟨g, hg, rfl, ho, b1⟩
  have HO := Lib.hid ho
  have hg2 : w.heap.size + 3 ≤ g := by simp only [World.size_alloc] at hg; omega
  clear ho hg
  have e4 := e3.trans b1
  obtain ⟨c1, f1⟩ := b1.cells
  have z1 := b1.size
  try simp only [World.size_alloc] at c1 f1 z1
  have y1_0 : w.heap.size < w1.heap.size := by omega
  have k1_0_0 : w1.cell? ⟨w.heap.size, 0, none⟩ = some (.int .i64 m) := (c1 _ _ (by omega)).trans (by go_simp)
  have g1_0_0 : w1.frozen? ⟨w.heap.size, 0, none⟩ = false := (f1 _ _ (by omega)).trans (by go_simp)
  have k1_0_1 : w1.cell? ⟨w.heap.size, 1, none⟩ = some (.int .i64 ep) := (c1 _ _ (by omega)).trans (by go_simp)
  have g1_0_1 : w1.frozen? ⟨w.heap.size, 1, none⟩ = false := (f1 _ _ (by omega)).trans (by go_simp)
  have k1_0_2 : w1.cell? ⟨w.heap.size, 2, none⟩ = some (.slice A n c) := (c1 _ _ (by omega)).trans (by go_simp)
  have g1_0_2 : w1.frozen? ⟨w.heap.size, 2, none⟩ = false := (f1 _ _ (by omega)).trans (by go_simp)
  have y1_1 : w.heap.size + 1 < w1.heap.size := by omega
  have k1_1_0 : w1.cell? ⟨w.heap.size + 1, 0, none⟩ = some (.int .i64 0) := (c1 _ _ (by omega)).trans (by go_simp)
  have g1_1_0 : w1.frozen? ⟨w.heap.size + 1, 0, none⟩ = false := (f1 _ _ (by omega)).trans (by go_simp)
  have k1_1_1 : w1.cell? ⟨w.heap.size + 1, 1, none⟩ = some (.int .i64 0) := (c1 _ _ (by omega)).trans (by go_simp)
  have g1_1_1 : w1.frozen? ⟨w.heap.size + 1, 1, none⟩ = false := (f1 _ _ (by omega)).trans (by go_simp)
  have k1_1_2 : w1.cell? ⟨w.heap.size + 1, 2, none⟩ = some (.slice none 0 0) := (c1 _ _ (by omega)).trans (by go_simp)
  have g1_1_2 : w1.frozen? ⟨w.heap.size + 1, 2, none⟩ = false := (f1 _ _ (by omega)).trans (by go_simp)
  have y1_2 : w.heap.size + 1 + 1 < w1.heap.size := by omega
  have k1_2_0 : w1.cell? ⟨w.heap.size + 1 + 1, 0, none⟩ = some (.int .i64 m) := (c1 _ _ (by omega)).trans (by go_simp)
  have g1_2_0 : w1.frozen? ⟨w.heap.size + 1 + 1, 0, none⟩ = false := (f1 _ _ (by omega)).trans (by go_simp)
  have k1_2_1 : w1.cell? ⟨w.heap.size + 1 + 1, 1, none⟩ = some (.int .i64 ep) := (c1 _ _ (by omega)).trans (by go_simp)
  have g1_2_1 : w1.frozen? ⟨w.heap.size + 1 + 1, 1, none⟩ = false := (f1 _ _ (by omega)).trans (by go_simp)
  have k1_2_2 : w1.cell? ⟨w.heap.size + 1 + 1, 2, none⟩ = some (.slice none 0 0) := (c1 _ _ (by omega)).trans (by go_simp)
  have g1_2_2 : w1.frozen? ⟨w.heap.size + 1 + 1, 2, none⟩ = false := (f1 _ _ (by omega)).trans (by go_simp)
  clear c1 f1
  go_wp2_with fail
  refine bodyPost_ret (v := .agg #[.int .i64 m, .int .i64 ep, .slice (some ⟨g, 0, none⟩) n n]) (by simp [results, Try.results23, go_sem, *]) rfl ?_
  refine ⟨g, by omega, rfl, ?_, ?_⟩
  · refine own_lower (base := w.heap.size + 1 + 1 + 1) ?_ (by omega)
    repeat (refine own_set ?_ (by simp [Value.ownBlock]; omega) _)
    have := HO.out
    simpa using this
  · exact (((e4.setCell (by dsimp only; omega) _).setCell (by dsimp only; omega) _).setCell (by dsimp only; omega) _).setCell (by dsimp only; omega) _

set_option maxHeartbeats 800000 in
theorem sz_group (m ep : Int) (A : Option Addr) (n c : Nat) (hn : n ≤ 9223372036854775807) (l : Int) (hl : l = 1048576) (w : World) :
    Calls Try.prog 21 #[.agg #[.int .i64 m, .int .i64 ep, .slice A n c], .int .i64 l] w fun e w' => e = .returned (.int .i64 (if l < n then -1 else l - n)) ∧ Ext w w' := by
  subst hl
  by_cases h : (1048576 : Int) < n
  case pos =>
    rw [if_pos h]
    have hs := fun w' => sz_ints A n c 1048576 (by omega) (by omega) hn w'
    simp only [if_pos h] at hs
    have HS := Lib.hid hs
    clear hs
    go_enter Try.func21, Try.ntmps21
    go_wp2_with fail
    refine (HS.out _).mono ?_
    rintro e w1 ⟨rfl, rfl⟩
    go_wp2_with fail
    go_ret
    exact ⟨rfl, (Ext.refl w).alloc _⟩
  rw [if_neg h]
  have hs := fun w' => sz_ints A n c 1048576 (by omega) (by omega) hn w'
  simp only [if_neg h] at hs
  have HS := Lib.hid hs
  clear hs
  go_enter Try.func21, Try.ntmps21
  go_wp2_with fail
  refine (HS.out _).mono ?_
  rintro e w1 ⟨rfl, rfl⟩
  go_wp2_with fail
  go_ret
  exact ⟨rfl, (Ext.refl w).alloc _⟩

set_option maxHeartbeats 800000 in
theorem eq_group (m ep : Int) (A B : Option Addr) (n c d : Nat) (xs : List Int) (hn : n ≤ 1048576) (w : World) (ha : Rd w 1 A n (ints xs)) (hb : Rd w 1 B n (ints xs)) :
    Calls Try.prog 25 #[.agg #[.int .i64 m, .int .i64 ep, .slice A n c], .agg #[.int .i64 m, .int .i64 ep, .slice B n d]] w fun e w' => e = .returned (.bool true) ∧ Ext w w' := by
  have e2 : Ext w ((w.alloc (.cells #[.int .i64 m, .int .i64 ep, .slice A n c] 29)).alloc (.cells #[.int .i64 m, .int .i64 ep, .slice B n d] 29)) := ((Ext.refl w).alloc _).alloc _
  have HA := Lib.hid (ha.ext e2)
  have HB := Lib.hid (hb.ext e2)
  go_enter Try.func25, Try.ntmps25
  go_wp2_with fail
  refine (eq_ints _ _ _ _ _ _ (by omega) _ HA.out HB.out).mono ?_
  rintro e w1 ⟨rfl, b1⟩
  go_wp2_with fail
  go_ret
  exact ⟨rfl, e2.trans b1.ext⟩

end Go.Proofs.Ytekelmhlpinimaa
