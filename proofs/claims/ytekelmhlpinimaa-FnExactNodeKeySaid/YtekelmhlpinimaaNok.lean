/-
  NodeKey of the program returns what the reference's returns, for every argument.
-/
import Derived.Test.YtekelmhlpinimaaKeys
namespace Go.Proofs.Ytekelmhlpinimaa.fnExactNodeKey
open Go.ChangeShapes Go.WideShapes Go.ChangeAt Go.RowKit
set_option maxHeartbeats 400000 in
theorem law (m x : Int) (w : World) :
    Calls Try.prog 5 #[.int .i64 m, .int .i64 x] w fun e w' => e = .returned (.bool true) ∧ Ext w w' := by
  go_enter Try.func5, Try.ntmps5
  go_wp2_with fail
  refine (nodeKey_spec _ _ _).mono ?_
  rintro e w1 ⟨rfl, b1⟩
  obtain ⟨c1, f1⟩ := b1.cells
  have z1 := b1.size
  try simp only [World.size_alloc] at c1 f1 z1
  go_wp2_with fail
  refine (nodeKey_impl _ _ _).mono ?_
  rintro e w2 ⟨rfl, b2⟩
  obtain ⟨c2, f2⟩ := b2.cells
  have z2 := b2.size
  try simp only [World.size_alloc] at c2 f2 z2
  go_wp2_with fail
  go_ret
  refine ⟨rfl, ?_⟩
  repeat (first | with_reducible exact Ext.refl _ | with_reducible assumption | with_reducible refine Ext.alloc ?_ _ | with_reducible refine Ext.drew ?_ | with_reducible refine Ext.drewN ?_ _ | (with_reducible refine Ext.setCell ?_ ?hle _; case hle => (first | (with_reducible exact Nat.le_refl _) | omega | (dsimp only; omega) | (simp only [World.size_alloc]; omega))) | with_reducible refine Ext.trans ?_ (by with_reducible assumption))

theorem walk : LawWalk 5 Try.f5 := by
  intro H enc W base args ds p hval hA
  rw [Try.params5] at hA hval
  obtain ⟨v0, vs0, d0, ds0, p0, q0, hargs, rfl, rfl, h0, r0⟩ := trodAll_cons hA
  obtain ⟨v1, vs1, d1, ds1, p1, q1, rfl, rfl, rfl, h1, r1⟩ := trodAll_cons r0
  obtain ⟨rfl, rfl, rfl⟩ := trodAll_nil r1
  obtain rfl : args = #[v0, v1] := by cases args; simp_all
  obtain ⟨m, rfl, l_m, u_m⟩ := outer_int Try.underlying3 (hval 0 _ v0 rfl rfl) h0
  obtain ⟨x, rfl, l_x, u_x⟩ := outer_int Try.underlying3 (hval 1 _ v1 rfl rfl) h1
  exact law m x W

set_option maxRecDepth 100000 in
theorem over : Rows.fnExactNodeKeyRow.holds Try.pinned (OpenSpec.ofChange Rows.fnExactNodeKeySpec) :=
  OpenClaim.holds_of_wide 5 Try.f5 rfl rfl rfl rfl rfl rfl rfl ⟨rfl, rfl, rfl, rfl, rfl⟩ rfl rfl rfl rfl rfl (by kernel_rfl) Try.func5 (by kernel_rfl)
    (of_decide_eq_true (by kernel_rfl)) (by unfold Func.isWrapper; first | (rw [if_pos (by decide +kernel)]; kernel_rfl) | (rw [if_neg (by decide +kernel)]; exact ⟨rfl, rfl⟩))
    (fun os started H enc _ => lifted_of (s := Rows.fnExactNodeKeySpec) (conds := Rows.fnExactNodeKeyRow.domain) os started H enc (by kernel_rfl) Try.func5
      (ChangeSpec.witness6 (enc := enc) (C := Try.checked) false ⟨#[], #[.int .i64 0, .int .i64 0], []⟩ 8 (by kernel_rfl) (by kernel_rfl) (by kernel_rfl) (by kernel_rfl))
      (by kernel_rfl) rfl (by kernel_rfl) (fun ds h => by match ds, h with | [d1, d2], _ => rfl) walk)

theorem proved : Rows.FnExactNodeKeySaid := over
#print axioms proved
end Go.Proofs.Ytekelmhlpinimaa.fnExactNodeKey
