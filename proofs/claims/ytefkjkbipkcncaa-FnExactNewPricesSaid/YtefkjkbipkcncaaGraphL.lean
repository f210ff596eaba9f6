/-
  Graphs as arguments of laws.
-/
import Derived.Test.YtefkjkbipkcncaaEdges
namespace Go.Proofs.Ytefkjkbipkcncaa
open Go.ChangeShapes Go.WideShapes Go.ChangeAt Go.RowKit
set_option linter.unusedVariables false

set_option maxRecDepth 100000 in
theorem inner_edges {H : Type} {enc : TypeId × Value → H} {w : World} {base : Nat} {spare : Nat → Bool} {held : Bool} {fuel : Nat} {cs : List Value} {x : DataW H × List MemPlace}
    (h : DataW.trod enc Try.prog w base spare held fuel 35 cs = some x) :
    ∃ (A : Option Addr) (n c : Nat) (xs : List Tri), cs = [.slice A n c] ∧ n ≤ c ∧ c ≤ maxLen ∧ Rd w 3 A n (tris xs) ∧ ∀ e ∈ xs, I64 e.a ∧ I64 e.b ∧ I64 e.c := by
  obtain ⟨A, n, c, els, h1, h2, h3, h4, h5, h6⟩ := inner_slice Try.underlying35 (show Try.prog.cellsOf 116 = 3 by kernel_rfl) (by omega) h
  obtain ⟨xs, e1, e2⟩ := tris_of els (fun el hel => by
    obtain ⟨hl, k, y, hy⟩ := h6 el hel
    obtain ⟨n', _, hf⟩ := inner_struct Try.underlying116 hy
    obtain ⟨c0, c1, c2, rfl⟩ := len3 hl
    have c1' : Try.prog.cellsOf 3 = 1 := by kernel_rfl
    obtain ⟨y0, g0⟩ := hf 0 _ rfl
    obtain ⟨y1, g1⟩ := hf 1 _ rfl
    obtain ⟨y2, g2⟩ := hf 2 _ rfl
    obtain ⟨a0, e0, b0⟩ := inner_int Try.underlying3 g0
    obtain ⟨a1, e1, b1⟩ := inner_int Try.underlying3 g1
    obtain ⟨a2, e2, b2⟩ := inner_int Try.underlying3 g2
    simp [c1'] at e0 e1 e2
    subst e0 e1 e2
    exact ⟨_, _, _, rfl, b0, b1, b2⟩)
  rw [e1] at h5
  exact ⟨A, n, c, xs, h1, h2, h3, h5, e2⟩

set_option maxRecDepth 100000 in
theorem open_graph {H : Type} {enc : TypeId × Value → H} {w : World} {base : Nat} {spare : Nat → Bool} {held : Bool} {r : Reach} {b0 : Nat} {v : Value} {d : DataW H} {p : List MemPlace}
    (hv : Value.okWide Try.prog w r b0 37 v) (h : DataW.Trod enc Try.prog w base spare held 37 v d p) :
    ∃ (sz : Int) (A : Option Addr) (n c : Nat) (xs : List Tri), v = .agg #[.int .i64 sz, .slice A n c] ∧ n ≤ 9223372036854775807 ∧ Rd w 3 A n (tris xs) ∧ I64 sz ∧ ∀ e ∈ xs, I64 e.a ∧ I64 e.b ∧ I64 e.c := by
  obtain ⟨cs, k, rfl, hl, hf⟩ := open_struct Try.underlying37 hv h
  rw [show Try.prog.cellsOf 37 = 2 by kernel_rfl] at hl
  obtain ⟨q0, q1, rfl⟩ := len2 hl
  have c1' : Try.prog.cellsOf 3 = 1 := by kernel_rfl
  have c2' : Try.prog.cellsOf 35 = 1 := by kernel_rfl
  obtain ⟨y0, g0⟩ := hf 0 _ rfl
  obtain ⟨y1, g1⟩ := hf 1 _ rfl
  obtain ⟨a0, e0, r0⟩ := inner_int Try.underlying3 g0
  obtain ⟨A, n, c, xs, e1, h1, h2, h3, h4⟩ := inner_edges g1
  simp [c1', c2'] at e0 e1
  subst e0 e1
  exact ⟨_, A, n, c, xs, rfl, by unfold maxLen at h2; omega, h3, r0, h4⟩

/-- A Graph in new memory. -/
def GraphPost (w : World) (sz : Int) (n : Nat) (xs : List Tri) (e : Ending) (w' : World) : Prop :=
  ∃ g, w.heap.size ≤ g ∧ e = .returned (.agg #[.int .i64 sz, .slice (some ⟨g, 0, none⟩) n n]) ∧ w'.ownsRow w.heap.size 97 3 (.slice (some ⟨g, 0, none⟩) n n) n (tris xs) ∧ Ext w w'

set_option maxHeartbeats 800000 in
theorem to_graph (sz : Int) (A : Option Addr) (n c : Nat) (xs : List Tri) (hn : n ≤ 1048576) (w : World) (hr : Rd w 3 A n (tris xs)) :
    Calls Try.prog 26 #[.agg #[.int .i64 sz, .slice A n c]] w (GraphPost w sz n xs) := by
  have e3 : Ext w (((w.alloc (.cells #[.int .i64 sz, .slice A n c] 37)).alloc (.cells #[.int .i64 0, .slice none 0 0] 43)).alloc (.cells #[.int .i64 sz, .slice none 0 0] 43)) := (((Ext.refl w).alloc _).alloc _).alloc _
  have HR := Lib.hid (hr.ext e3)
  go_enter Try.func26, Try.ntmps26
  go_wp2_with fail
  refine (to_edges _ _ _ _ (by omega) _ HR.out).mono ?_
  rintro e w1 ⟨g, hg, rfl, ho, b1⟩
  have HO := Lib.hid ho
  have hg2 : w.heap.size + 3 ≤ g := by simp only [World.size_alloc] at hg; omega
  clear ho hg
  have e4 := e3.trans b1
  obtain ⟨c1, f1⟩ := b1.cells
  have z1 := b1.size
  try simp only [World.size_alloc] at c1 f1 z1
  have y1_0 : w.heap.size < w1.heap.size := by omega
  have k1_0_0 : w1.cell? ⟨w.heap.size, 0, none⟩ = some (.int .i64 sz) := (c1 _ _ (by omega)).trans (by first | assumption | go_simp)
  have g1_0_0 : w1.frozen? ⟨w.heap.size, 0, none⟩ = false := (f1 _ _ (by omega)).trans (by go_simp)
  have k1_0_1 : w1.cell? ⟨w.heap.size, 1, none⟩ = some (.slice A n c) := (c1 _ _ (by omega)).trans (by first | assumption | go_simp)
  have g1_0_1 : w1.frozen? ⟨w.heap.size, 1, none⟩ = false := (f1 _ _ (by omega)).trans (by go_simp)
  have y1_1 : w.heap.size + 1 < w1.heap.size := by omega
  have k1_1_0 : w1.cell? ⟨w.heap.size + 1, 0, none⟩ = some (.int .i64 0) := (c1 _ _ (by omega)).trans (by first | assumption | go_simp)
  have g1_1_0 : w1.frozen? ⟨w.heap.size + 1, 0, none⟩ = false := (f1 _ _ (by omega)).trans (by go_simp)
  have k1_1_1 : w1.cell? ⟨w.heap.size + 1, 1, none⟩ = some (.slice none 0 0) := (c1 _ _ (by omega)).trans (by first | assumption | go_simp)
  have g1_1_1 : w1.frozen? ⟨w.heap.size + 1, 1, none⟩ = false := (f1 _ _ (by omega)).trans (by go_simp)
  have y1_2 : w.heap.size + 1 + 1 < w1.heap.size := by omega
  have k1_2_0 : w1.cell? ⟨w.heap.size + 1 + 1, 0, none⟩ = some (.int .i64 sz) := (c1 _ _ (by omega)).trans (by first | assumption | go_simp)
  have g1_2_0 : w1.frozen? ⟨w.heap.size + 1 + 1, 0, none⟩ = false := (f1 _ _ (by omega)).trans (by go_simp)
  have k1_2_1 : w1.cell? ⟨w.heap.size + 1 + 1, 1, none⟩ = some (.slice none 0 0) := (c1 _ _ (by omega)).trans (by first | assumption | go_simp)
  have g1_2_1 : w1.frozen? ⟨w.heap.size + 1 + 1, 1, none⟩ = false := (f1 _ _ (by omega)).trans (by go_simp)
  clear c1 f1
  go_wp2_with fail
  refine bodyPost_ret (v := .agg #[.int .i64 sz, .slice (some ⟨g, 0, none⟩) n n]) (by simp [results, Try.results26, go_sem, *]) rfl ?_
  refine ⟨g, by omega, rfl, ?_, ?_⟩
  · refine own_lower (base := w.heap.size + 1 + 1 + 1) ?_ (by omega)
    repeat (refine own_set ?_ (by simp [Value.ownBlock]; omega) _)
    have := HO.out
    simpa using this
  · (repeat (first | with_reducible exact Ext.refl _ | with_reducible assumption | with_reducible refine Ext.alloc ?_ _ | with_reducible refine Ext.drew ?_ | with_reducible refine Ext.drewN ?_ _ | (with_reducible refine Ext.setCell' ?_ ?_ _; (first | (with_reducible exact Nat.le_refl _) | omega | (dsimp only; omega) | (simp only [World.size_alloc]; omega))) | (with_reducible apply Ext.trans'; with_reducible assumption) | exact (Ext.refl _).drew | (refine Ext.drew ?_; assumption)))
set_option maxHeartbeats 800000 in
theorem sz_graph (sz : Int) (A : Option Addr) (n c : Nat) (hn : n ≤ 9223372036854775807) (l : Int) (hl : l ≤ 1048576) (hl0 : 0 ≤ l) (w : World) :
    Calls Try.prog 24 #[.agg #[.int .i64 sz, .slice A n c], .int .i64 l] w fun e w' => e = .returned (.int .i64 (if l < n then -1 else l - n)) ∧ Ext w w' := by
  by_cases h : l < n
  case pos =>
    rw [if_pos h]
    have hs := fun w' => sz_edges A n c l hl hl0 hn w'
    simp only [if_pos h] at hs
    have HS := Lib.hid hs
    clear hs
    go_enter Try.func24, Try.ntmps24
    go_wp2_with fail
    refine (HS.out _).mono ?_
    rintro e w1 ⟨rfl, rfl⟩
    go_wp2_with fail
    go_ret
    exact ⟨rfl, (Ext.refl w).alloc _⟩
  rw [if_neg h]
  have hln : ¬ l - n < 0 := by omega
  have hs := fun w' => sz_edges A n c l hl hl0 hn w'
  simp only [if_neg h] at hs
  have HS := Lib.hid hs
  clear hs
  go_enter Try.func24, Try.ntmps24
  go_wp2_with fail
  refine (HS.out _).mono ?_
  rintro e w1 ⟨rfl, rfl⟩
  go_wp2_with fail
  go_ret
  exact ⟨rfl, (Ext.refl w).alloc _⟩
set_option maxHeartbeats 800000 in
theorem eq_graph (sz : Int) (A B : Option Addr) (n c d : Nat) (xs : List Tri) (hn : n ≤ 1048576) (w : World) (ha : Rd w 3 A n (tris xs)) (hb : Rd w 3 B n (tris xs)) :
    Calls Try.prog 29 #[.agg #[.int .i64 sz, .slice A n c], .agg #[.int .i64 sz, .slice B n d]] w fun e w' => e = .returned (.bool true) ∧ Ext w w' := by
  have e2 : Ext w ((w.alloc (.cells #[.int .i64 sz, .slice A n c] 43)).alloc (.cells #[.int .i64 sz, .slice B n d] 43)) := ((Ext.refl w).alloc _).alloc _
  have HA := Lib.hid (ha.ext e2)
  have HB := Lib.hid (hb.ext e2)
  go_enter Try.func29, Try.ntmps29
  go_wp2_with fail
  refine (eq_edges _ _ _ _ _ _ (by omega) _ HA.out HB.out).mono ?_
  rintro e w1 ⟨rfl, b1⟩
  go_wp2_with fail
  go_ret
  exact ⟨rfl, e2.trans b1⟩
set_option maxHeartbeats 800000 in
theorem mark_graph (sz : Int) (A : Option Addr) (n c base : Nat) (xs : List Tri) (k : Int) (hk0 : 0 ≤ k) (hk : k + 3 * n ≤ 4611686018427387904) (w : World) (hown : w.ownsRow base 97 3 (.slice A n c) n (tris xs)) :
    Calls Try.prog 36 #[.agg #[.int .i64 sz, .slice A n c], .int .i64 k] w fun e w' => e = .returned (.int .i64 (k + 3 * n)) ∧ w'.ownsRow base 97 3 (.slice A n c) n (tris (upTri k n)) ∧ w.grownBy w' (Value.slice A n c).ownBlock := by
  have HO := Lib.hid (hown.alloc (.cells #[.int .i64 sz, .slice A n c] 43))
  have eA : w.grownBy (w.alloc (.cells #[.int .i64 sz, .slice A n c] 43)) (Value.slice A n c).ownBlock := only_alloc w _ _
  go_enter Try.func36, Try.ntmps36
  go_wp2_with fail
  refine (mark_edges _ _ _ _ _ hk0 hk _ HO.out).mono ?_
  rintro e w1 ⟨rfl, ho1, hg1⟩
  have HO1 := Lib.hid ho1
  have HG := Lib.hid (eA.trans hg1)
  clear ho1 hg1
  go_wp2_with fail
  go_ret
  exact ⟨rfl, HO1.out, HG.out⟩

end Go.Proofs.Ytefkjkbipkcncaa
