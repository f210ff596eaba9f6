/-
  UnwrapKey of the program returns what the reference's returns, for every argument.
-/
import Derived.Test.YtekelmhlpinimaaUnwrap
namespace Go.Proofs.Ytekelmhlpinimaa.fnExactUnwrapKey
open Go.ChangeShapes Go.WideShapes Go.ChangeAt Go.RowKit
theorem open_wkey {H : Type} {enc : TypeId × Value → H} {w : World} {base : Nat} {spare : Nat → Bool} {held : Bool} {r : Reach} {b0 : Nat} {v : Value} {d : DataW H} {p : List MemPlace}
    (hv : Value.okWide Try.prog w r b0 34 v) (h : DataW.Trod enc Try.prog w base spare held 34 v d p) :
    ∃ mb ep bx mc : Int, v = .agg #[.int .i64 mb, .int .i64 ep, .int .i64 bx, .int .i64 mc] := by
  obtain ⟨cs, n, rfl, hl, hf⟩ := open_struct Try.underlying34 hv h
  rw [show Try.prog.cellsOf 34 = 4 by kernel_rfl] at hl
  match cs, hl with
  | [c0, c1, c2, c3], _ =>
    have c1' : Try.prog.cellsOf 3 = 1 := by kernel_rfl
    obtain ⟨y0, g0⟩ := hf 0 _ rfl
    obtain ⟨y1, g1⟩ := hf 1 _ rfl
    obtain ⟨y2, g2⟩ := hf 2 _ rfl
    obtain ⟨y3, g3⟩ := hf 3 _ rfl
    obtain ⟨a0, e0, _⟩ := inner_int Try.underlying3 g0
    obtain ⟨a1, e1, _⟩ := inner_int Try.underlying3 g1
    obtain ⟨a2, e2, _⟩ := inner_int Try.underlying3 g2
    obtain ⟨a3, e3, _⟩ := inner_int Try.underlying3 g3
    simp [c1'] at e0 e1 e2 e3
    subst e0 e1 e2 e3
    exact ⟨_, _, _, _, rfl⟩
theorem to_wkey (mb ep bx mc : Int) (w : World) :
    Calls Try.prog 27 #[.agg #[.int .i64 mb, .int .i64 ep, .int .i64 bx, .int .i64 mc]] w fun e w' => e = .returned (.agg #[.int .i64 mb, .int .i64 ep, .int .i64 bx, .int .i64 mc]) ∧ Ext w w' := by
  go_enter Try.func27, Try.ntmps27
  go_wp2
  exact bodyPost_ret (v := .agg #[.int .i64 mb, .int .i64 ep, .int .i64 bx, .int .i64 mc]) (by simp [results, Try.results27, go_sem]) rfl ⟨rfl, (((Ext.refl _).alloc _).alloc _).alloc _⟩
theorem uwv_form (key ep bx mc : Int) : ∃ (a : Int) (b : Bool), uwv key ep bx mc = .tuple #[.int .i64 a, .bool b] := by
  unfold uwv
  split
  · exact ⟨_, _, rfl⟩
  · exact ⟨_, _, rfl⟩
theorem impl' {key mb ep bx mc : Int} {v : Value} (h : uwv key ep bx mc = v) (w : World) : Calls Try.prog 28 #[.int .i64 key, .agg #[.int .i64 mb, .int .i64 ep, .int .i64 bx, .int .i64 mc]] w fun e w' => e = .returned v ∧ Ext w w' := by rw [← h]; exact unwrap_impl _ _ _ _ _ _
theorem spec' {key mb ep bx mc : Int} {v : Value} (h : uwv key ep bx mc = v) (w : World) : Calls Try.prog 26 #[.int .i64 key, .agg #[.int .i64 mb, .int .i64 ep, .int .i64 bx, .int .i64 mc]] w fun e w' => e = .returned v ∧ Ext w w' := by rw [← h]; exact unwrap_spec _ _ _ _ _ _
set_option maxHeartbeats 800000 in
theorem law (key mb ep bx mc : Int) (w : World) :
    Calls Try.prog 7 #[.int .i64 key, .agg #[.int .i64 mb, .int .i64 ep, .int .i64 bx, .int .i64 mc]] w fun e w' => e = .returned (.bool true) ∧ Ext w w' := by
  obtain ⟨a, b, h⟩ := uwv_form key ep bx mc
  have H := Lib.hid h
  clear h
  go_enter Try.func7, Try.ntmps7
  go_wp2_with fail
  refine (to_wkey _ _ _ _ _).mono ?_
  rintro e w1 ⟨rfl, b1⟩
  obtain ⟨c1, f1⟩ := b1.cells
  have z1 := b1.size
  try simp only [World.size_alloc] at c1 f1 z1
  have y1_0 : w.heap.size < w1.heap.size := by omega
  have k1_0_0 : w1.cell? ⟨w.heap.size, 0, none⟩ = some (.int .i64 mb) := (c1 _ _ (by omega)).trans (by go_simp)
  have g1_0_0 : w1.frozen? ⟨w.heap.size, 0, none⟩ = false := (f1 _ _ (by omega)).trans (by go_simp)
  have k1_0_1 : w1.cell? ⟨w.heap.size, 1, none⟩ = some (.int .i64 ep) := (c1 _ _ (by omega)).trans (by go_simp)
  have g1_0_1 : w1.frozen? ⟨w.heap.size, 1, none⟩ = false := (f1 _ _ (by omega)).trans (by go_simp)
  have k1_0_2 : w1.cell? ⟨w.heap.size, 2, none⟩ = some (.int .i64 bx) := (c1 _ _ (by omega)).trans (by go_simp)
  have g1_0_2 : w1.frozen? ⟨w.heap.size, 2, none⟩ = false := (f1 _ _ (by omega)).trans (by go_simp)
  have k1_0_3 : w1.cell? ⟨w.heap.size, 3, none⟩ = some (.int .i64 mc) := (c1 _ _ (by omega)).trans (by go_simp)
  have g1_0_3 : w1.frozen? ⟨w.heap.size, 3, none⟩ = false := (f1 _ _ (by omega)).trans (by go_simp)
  clear c1 f1
  go_wp2_with fail
  refine (spec' H.out _).mono ?_
  rintro e w2 ⟨rfl, b2⟩
  obtain ⟨c2, f2⟩ := b2.cells
  have z2 := b2.size
  try simp only [World.size_alloc] at c2 f2 z2
  have y2_0 : w.heap.size < w2.heap.size := by omega
  have k2_0_0 : w2.cell? ⟨w.heap.size, 0, none⟩ = some (.int .i64 mb) := (c2 _ _ (by omega)).trans (by go_simp)
  have g2_0_0 : w2.frozen? ⟨w.heap.size, 0, none⟩ = false := (f2 _ _ (by omega)).trans (by go_simp)
  have k2_0_1 : w2.cell? ⟨w.heap.size, 1, none⟩ = some (.int .i64 ep) := (c2 _ _ (by omega)).trans (by go_simp)
  have g2_0_1 : w2.frozen? ⟨w.heap.size, 1, none⟩ = false := (f2 _ _ (by omega)).trans (by go_simp)
  have k2_0_2 : w2.cell? ⟨w.heap.size, 2, none⟩ = some (.int .i64 bx) := (c2 _ _ (by omega)).trans (by go_simp)
  have g2_0_2 : w2.frozen? ⟨w.heap.size, 2, none⟩ = false := (f2 _ _ (by omega)).trans (by go_simp)
  have k2_0_3 : w2.cell? ⟨w.heap.size, 3, none⟩ = some (.int .i64 mc) := (c2 _ _ (by omega)).trans (by go_simp)
  have g2_0_3 : w2.frozen? ⟨w.heap.size, 3, none⟩ = false := (f2 _ _ (by omega)).trans (by go_simp)
  clear c2 f2
  go_wp2_with fail
  refine (to_wkey _ _ _ _ _).mono ?_
  rintro e w3 ⟨rfl, b3⟩
  obtain ⟨c3, f3⟩ := b3.cells
  have z3 := b3.size
  try simp only [World.size_alloc] at c3 f3 z3
  have y3_0 : w.heap.size < w3.heap.size := by omega
  have k3_0_0 : w3.cell? ⟨w.heap.size, 0, none⟩ = some (.int .i64 mb) := (c3 _ _ (by omega)).trans (by go_simp)
  have g3_0_0 : w3.frozen? ⟨w.heap.size, 0, none⟩ = false := (f3 _ _ (by omega)).trans (by go_simp)
  have k3_0_1 : w3.cell? ⟨w.heap.size, 1, none⟩ = some (.int .i64 ep) := (c3 _ _ (by omega)).trans (by go_simp)
  have g3_0_1 : w3.frozen? ⟨w.heap.size, 1, none⟩ = false := (f3 _ _ (by omega)).trans (by go_simp)
  have k3_0_2 : w3.cell? ⟨w.heap.size, 2, none⟩ = some (.int .i64 bx) := (c3 _ _ (by omega)).trans (by go_simp)
  have g3_0_2 : w3.frozen? ⟨w.heap.size, 2, none⟩ = false := (f3 _ _ (by omega)).trans (by go_simp)
  have k3_0_3 : w3.cell? ⟨w.heap.size, 3, none⟩ = some (.int .i64 mc) := (c3 _ _ (by omega)).trans (by go_simp)
  have g3_0_3 : w3.frozen? ⟨w.heap.size, 3, none⟩ = false := (f3 _ _ (by omega)).trans (by go_simp)
  clear c3 f3
  go_wp2_with fail
  refine (impl' H.out _).mono ?_
  rintro e w4 ⟨rfl, b4⟩
  obtain ⟨c4, f4⟩ := b4.cells
  have z4 := b4.size
  try simp only [World.size_alloc] at c4 f4 z4
  go_wp2_with fail
  go_ret
  refine ⟨rfl, ?_⟩
  (repeat (first | with_reducible exact Ext.refl _ | with_reducible assumption | with_reducible refine Ext.alloc ?_ _ | with_reducible refine Ext.drew ?_ | with_reducible refine Ext.drewN ?_ _ | (with_reducible refine Ext.setCell' ?_ ?_ _; (first | (with_reducible exact Nat.le_refl _) | omega | (dsimp only; omega) | (simp only [World.size_alloc]; omega))) | (with_reducible apply Ext.trans'; with_reducible assumption) | exact (Ext.refl _).drew | (refine Ext.drew ?_; assumption)))

theorem walk : LawWalk 7 Try.f7 := by
  intro H enc W base args ds p hval hA
  rw [Try.params7] at hA hval
  obtain ⟨v0, vs0, d0, ds0, p0, q0, hargs, rfl, rfl, h0, r0⟩ := trodAll_cons hA
  obtain ⟨v1, vs1, d1, ds1, p1, q1, rfl, rfl, rfl, h1, r1⟩ := trodAll_cons r0
  obtain ⟨rfl, rfl, rfl⟩ := trodAll_nil r1
  obtain rfl : args = #[v0, v1] := by cases args; simp_all
  obtain ⟨key, rfl, l_key, u_key⟩ := outer_int Try.underlying3 (hval 0 _ v0 rfl rfl) h0
  obtain ⟨mb, ep, bx, mc, rfl⟩ := open_wkey (hval 1 _ v1 rfl rfl) h1
  exact law key mb ep bx mc W

set_option maxRecDepth 100000 in
theorem over : Rows.fnExactUnwrapKeyRow.holds Try.pinned (OpenSpec.ofChange Rows.fnExactUnwrapKeySpec) :=
  OpenClaim.holds_of_wide 7 Try.f7 rfl rfl rfl rfl rfl rfl rfl ⟨rfl, rfl, rfl, rfl, rfl⟩ rfl rfl rfl rfl rfl (by kernel_rfl) Try.func7 (by kernel_rfl)
    (of_decide_eq_true (by kernel_rfl)) (by unfold Func.isWrapper; first | (rw [if_pos (by decide +kernel)]; kernel_rfl) | (rw [if_neg (by decide +kernel)]; exact ⟨rfl, rfl⟩))
    (fun os started H enc _ => lifted_of (s := Rows.fnExactUnwrapKeySpec) (conds := Rows.fnExactUnwrapKeyRow.domain) os started H enc (by kernel_rfl) Try.func7
      (ChangeSpec.witness6 (enc := enc) (C := Try.checked) false ⟨#[], #[.int .i64 0, .agg #[.int .i64 0, .int .i64 0, .int .i64 0, .int .i64 0]], []⟩ 8 (by kernel_rfl) (by kernel_rfl) (by kernel_rfl) (by kernel_rfl))
      (by kernel_rfl) rfl (by kernel_rfl) (fun ds h => by match ds, h with | [d1, d2], _ => rfl) walk)

theorem proved : Rows.FnExactUnwrapKeySaid := over
#print axioms proved
end Go.Proofs.Ytekelmhlpinimaa.fnExactUnwrapKey
