/-
  l22Sum of the reference.
-/
import Derived.Test.YtefkjkbipkcncaaFlowL
import Derived.Test.YtefkjkbipkcncaaEdgesSp
namespace Go.Proofs.Ytefkjkbipkcncaa
open Go.ChangeShapes Go.WideShapes Go.ChangeAt Go.RowKit
set_option linter.unusedVariables false

theorem i64wrap (n : Int) : IntKind.i64.wrap n = wrap64 n := by rw [IntKind.wrap_i64]; unfold wrap64; omega
theorem wrap_add (a b : Int) : wrap64 (wrap64 a + b) = wrap64 (a + b) := by unfold wrap64; omega
theorem wrap_sub (a b : Int) : wrap64 (wrap64 a - b) = wrap64 (a - b) := by unfold wrap64; omega
theorem wrap_sub2 (a b : Int) : wrap64 (wrap64 a - wrap64 b) = wrap64 (a - b) := by unfold wrap64; omega
theorem wrap_zero : wrap64 0 = 0 := by unfold wrap64; omega
/-- What the edges of a list carry. -/
def sumS (am : List Int) (l : List Int) : Int := (l.map fun x => am.getD x.toNat 0).sum
theorem sum_take (am l : List Int) (k : Nat) (x y : Int) (h : l[k]? = some x) (hy : am[x.toNat]? = some y) : sumS am (l.take (k + 1)) = sumS am (l.take k) + y := by
  rw [List.take_add_one, h]
  simp [sumS, List.getD, hy]

set_option maxHeartbeats 1600000 in
theorem sum_spec (A : Option Addr) (n c : Nat) (xs : List Int) (B : Option Addr) (m d : Nat) (ns : List Int) (hn : n ≤ 1048576) (hm : m ≤ 1048576) (hin : ∀ x ∈ ns, 0 ≤ x ∧ x < xs.length) (w : World) (hr : Rd w 1 A n (ints xs)) (hb : Rd w 1 B m (ints ns)) :
    Calls Try.prog 76 #[.agg #[.slice A n c], .slice B m d] w fun e w' => e = .returned (.int .i64 (wrap64 (sumS xs ns))) ∧ Ext w w' := by
  have HL := Lib.hid hr.len
  have HM := Lib.hid hb.len
  have HI := Lib.hid hin
  have eW : Ext w (w.alloc (.cells #[.slice A n c] 61)) := (Ext.refl w).alloc _
  have HR := Lib.hid (hr.ext eW)
  have HN := Lib.hid (hb.ext eW)
  obtain ⟨W, hW⟩ : ∃ W, w.alloc (.cells #[.slice A n c] 61) = W := ⟨_, rfl⟩
  rw [hW] at eW HR HN
  have HW := Lib.hid hW
  clear hW hin hr hb
  have hzx : w.heap.size < W.heap.size := by rw [← HW.out]; simp
  have hbx : W.cell? ⟨w.heap.size, 0, none⟩ = some (.slice A n c) := by rw [← HW.out]; go_simp
  go_enter Try.func76, Try.ntmps76
  go_wp2
  rw [HW.out]
  go_loopw [5, 6] (fun s i wr => ∃ k : Nat, k ≤ m ∧ i = .int .i64 k ∧ s = .int .i64 (wrap64 (sumS xs (ns.take k))) ∧ Ext W wr) (fun _ i _ => m - (intOf i).toNat)
  case atStart => exact ⟨0, Nat.zero_le _, rfl, by simp [sumS, wrap_zero], Ext.refl _⟩
  case round =>
    obtain ⟨k, hk, rfl, rfl, he⟩ := hrel
    have hcb := (he.cell w.heap.size 0 hzx).trans hbx
    by_cases hlt : k < m
    case pos =>
      obtain ⟨b2, o2, x, rfl, hb2, hx, hd⟩ := (HN.out.ext he).int hlt
      obtain ⟨h0, h1⟩ := HI.out x (List.mem_of_getElem? hx)
      obtain ⟨i, rfl⟩ := Int.eq_ofNat_of_zero_le h0
      have hi : i < n := by have := HL.out; omega
      obtain ⟨b, o, y, rfl, hbb, hy, hc⟩ := (HR.out.ext he).int hi
      have HS := Lib.hid (show wrap64 (wrap64 (sumS xs (ns.take k)) + y) = wrap64 (sumS xs (ns.take (k + 1))) by rw [wrap_add, sum_take xs ns k _ y hx (by simpa using hy)])
      have k0 : (0 : Int) ≤ k := by omega
      have k1 : (k : Int) < m := by omega
      have k2 : (0 : Int) ≤ i := by omega
      have k3 : (i : Int) < n := by omega
      clear hx hy h0 h1
      go_wp2
      go_quiet (fail)
      go_wp2
      go_roundw
      case rel => exact ⟨k + 1, by omega, by go_num, by rw [← HS.out], by (repeat (first | with_reducible exact Ext.refl _ | with_reducible assumption | with_reducible refine Ext.alloc ?_ _ | with_reducible refine Ext.drew ?_ | with_reducible refine Ext.drewN ?_ _ | (with_reducible refine Ext.setCell' ?_ ?_ _; (first | (with_reducible exact Nat.le_refl _) | omega | (dsimp only; omega) | (simp only [World.size_alloc]; omega))) | (with_reducible apply Ext.trans'; with_reducible assumption) | exact (Ext.refl _).drew | (refine Ext.drew ?_; assumption)))⟩
      case measure => simp [intOf]; omega
    case neg =>
      have HK := Lib.hid (show ns.take k = ns from List.take_of_length_le (by have := HM.out; omega))
      go_wp2
      go_ret
      exact ⟨ret_int (by rw [HK.out]), eW.trans he⟩

end Go.Proofs.Ytefkjkbipkcncaa
