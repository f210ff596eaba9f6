/-
  CountProofs of the program and of the reference.
-/
import Derived.Test.YtefkjkbipkcncaaLedger
namespace Go.Proofs.Ytefkjkbipkcncaa
open Go.ChangeShapes Go.WideShapes Go.ChangeAt Go.RowKit
set_option linter.unusedVariables false

/-- How many proofs of a node. -/
def cnt (node : Int) (es : List Tri) : Int := ((es.filter fun e => e.a == node).length : Nat)
theorem cnt_bd (node : Int) (es : List Tri) : 0 ≤ cnt node es ∧ cnt node es ≤ es.length := by
  unfold cnt
  have := List.length_filter_le (fun e : Tri => e.a == node) es
  omega
theorem cnt_take_yes (node : Int) (es : List Tri) (k : Nat) (e : Tri) (h : es[k]? = some e) (he : e.a = node) : cnt node (es.take (k + 1)) = cnt node (es.take k) + 1 := by
  rw [List.take_add_one, h]
  simp [cnt, List.filter_append, he]
theorem cnt_take_no (node : Int) (es : List Tri) (k : Nat) (e : Tri) (h : es[k]? = some e) (he : ¬ e.a = node) : cnt node (es.take (k + 1)) = cnt node (es.take k) := by
  rw [List.take_add_one, h]
  simp [cnt, List.filter_append, he]

set_option maxHeartbeats 800000 in
theorem count_impl (A : Option Addr) (n c : Nat) (xs : List Tri) (node : Int) (hn : n ≤ 1048576) (w : World) (hr : Rd w 3 A n (tris xs)) :
    Calls Try.prog 18 #[.agg #[.slice A n c], .int .i64 node] w fun e w' => e = .returned (.int .i64 (cnt node xs)) ∧ Ext w w' := by
  have hlen := hr.trilen
  have HL := Lib.hid hlen
  clear hlen
  have eW : Ext w (w.alloc (.cells #[.slice A n c] 29)) := (Ext.refl w).alloc _
  have HR := Lib.hid (hr.ext eW)
  have hbx : (w.alloc (.cells #[.slice A n c] 29)).cell? ⟨w.heap.size, 0, none⟩ = some (.slice A n c) := by go_simp
  have hzx : w.heap.size < (w.alloc (.cells #[.slice A n c] 29)).heap.size := by simp
  generalize hW : w.alloc (.cells #[.slice A n c] 29) = W at *
  have HW := Lib.hid hW
  clear hW
  go_enter Try.func18, Try.ntmps18
  go_wp2
  rw [HW.out]
  go_loopw [5, 11] (fun d i wr => ∃ k : Nat, k ≤ n ∧ i = .int .i64 k ∧ d = .int .i64 (cnt node (xs.take k)) ∧ Ext W wr) (fun _ i _ => n - (intOf i).toNat)
  case atStart => exact ⟨0, Nat.zero_le _, rfl, rfl, Ext.refl _⟩
  case round =>
    obtain ⟨k, hk, rfl, rfl, he⟩ := hrel
    have hcb := (he.cell w.heap.size 0 hzx).trans hbx
    by_cases hlt : k < n
    case pos =>
      obtain ⟨b, o, e, rfl, hb, hx, hc0, hc1, hc2⟩ := (HR.out.ext he).tri hlt
      have hne : b ≠ wr.heap.size := by omega
      by_cases hE : e.a = node
      case pos =>
        have hq : (e.a == node) = true := by simpa using hE
        have HS := Lib.hid (cnt_take_yes node xs k e hx hE)
        have HE := Lib.hid hE
        have hb := cnt_bd node (xs.take k)
        have hb2 : ((xs.take k).length : Int) ≤ k := by simp; omega
        clear hx hE
        generalize cnt node (xs.take k) = d at *
        go_wp2
        go_roundw
        case rel => exact ⟨k + 1, by omega, by go_num, by rw [HS.out], by (repeat (first | with_reducible exact Ext.refl _ | with_reducible assumption | with_reducible refine Ext.alloc ?_ _ | with_reducible refine Ext.drew ?_ | with_reducible refine Ext.drewN ?_ _ | (with_reducible refine Ext.setCell' ?_ ?_ _; (first | (with_reducible exact Nat.le_refl _) | omega | (dsimp only; omega) | (simp only [World.size_alloc]; omega))) | (with_reducible apply Ext.trans'; with_reducible assumption) | exact (Ext.refl _).drew | (refine Ext.drew ?_; assumption)))⟩
        case measure => simp [intOf]; omega
      case neg =>
        have hq : (e.a == node) = false := by simpa using hE
        have HS := Lib.hid (cnt_take_no node xs k e hx hE)
        have HE := Lib.hid hE
        have hb := cnt_bd node (xs.take k)
        have hb2 : ((xs.take k).length : Int) ≤ k := by simp; omega
        clear hx hE
        generalize cnt node (xs.take k) = d at *
        go_wp2
        go_roundw
        case rel => exact ⟨k + 1, by omega, by go_num, by rw [HS.out], by (repeat (first | with_reducible exact Ext.refl _ | with_reducible assumption | with_reducible refine Ext.alloc ?_ _ | with_reducible refine Ext.drew ?_ | with_reducible refine Ext.drewN ?_ _ | (with_reducible refine Ext.setCell' ?_ ?_ _; (first | (with_reducible exact Nat.le_refl _) | omega | (dsimp only; omega) | (simp only [World.size_alloc]; omega))) | (with_reducible apply Ext.trans'; with_reducible assumption) | exact (Ext.refl _).drew | (refine Ext.drew ?_; assumption)))⟩
        case measure => simp [intOf]; omega
    case neg =>
      have hkn : xs.take k = xs := List.take_of_length_le (by have := HL.out; omega)
      have HK := Lib.hid hkn
      clear hkn
      go_wp2
      go_ret
      exact ⟨ret_int (by rw [HK.out]), eW.trans he⟩

set_option maxHeartbeats 800000 in
theorem count_spec (A : Option Addr) (n c : Nat) (xs : List Tri) (node : Int) (hn : n ≤ 1048576) (w : World) (hr : Rd w 3 A n (tris xs)) :
    Calls Try.prog 16 #[.agg #[.slice A n c], .int .i64 node] w fun e w' => e = .returned (.int .i64 (cnt node xs)) ∧ Ext w w' := by
  have hlen := hr.trilen
  have HL := Lib.hid hlen
  clear hlen
  have eW : Ext w (w.alloc (.cells #[.slice A n c] 29)) := (Ext.refl w).alloc _
  have HR := Lib.hid (hr.ext eW)
  have hbx : (w.alloc (.cells #[.slice A n c] 29)).cell? ⟨w.heap.size, 0, none⟩ = some (.slice A n c) := by go_simp
  have hzx : w.heap.size < (w.alloc (.cells #[.slice A n c] 29)).heap.size := by simp
  generalize hW : w.alloc (.cells #[.slice A n c] 29) = W at *
  have HW := Lib.hid hW
  clear hW
  go_enter Try.func16, Try.ntmps16
  go_wp2
  rw [HW.out]
  go_loopw [5, 6] (fun d i wr => ∃ k : Nat, k ≤ n ∧ i = .int .i64 k ∧ d = .int .i64 (cnt node (xs.take k)) ∧ Ext W wr) (fun _ i _ => n - (intOf i).toNat)
  case atStart => exact ⟨0, Nat.zero_le _, rfl, rfl, Ext.refl _⟩
  case round =>
    obtain ⟨k, hk, rfl, rfl, he⟩ := hrel
    have hcb := (he.cell w.heap.size 0 hzx).trans hbx
    by_cases hlt : k < n
    case pos =>
      obtain ⟨b, o, e, rfl, hb, hx, hc0, hc1, hc2⟩ := (HR.out.ext he).tri hlt
      have hne : b ≠ wr.heap.size := by omega
      by_cases hE : e.a = node
      case pos =>
        have hq : (e.a == node) = true := by simpa using hE
        have HS := Lib.hid (cnt_take_yes node xs k e hx hE)
        have HE := Lib.hid hE
        have hb := cnt_bd node (xs.take k)
        have hb2 : ((xs.take k).length : Int) ≤ k := by simp; omega
        clear hx hE
        generalize cnt node (xs.take k) = d at *
        go_wp2
        go_roundw
        case rel => exact ⟨k + 1, by omega, by go_num, by rw [HS.out], by (repeat (first | with_reducible exact Ext.refl _ | with_reducible assumption | with_reducible refine Ext.alloc ?_ _ | with_reducible refine Ext.drew ?_ | with_reducible refine Ext.drewN ?_ _ | (with_reducible refine Ext.setCell' ?_ ?_ _; (first | (with_reducible exact Nat.le_refl _) | omega | (dsimp only; omega) | (simp only [World.size_alloc]; omega))) | (with_reducible apply Ext.trans'; with_reducible assumption) | exact (Ext.refl _).drew | (refine Ext.drew ?_; assumption)))⟩
        case measure => simp [intOf]; omega
      case neg =>
        have hq : (e.a == node) = false := by simpa using hE
        have HS := Lib.hid (cnt_take_no node xs k e hx hE)
        have HE := Lib.hid hE
        have hb := cnt_bd node (xs.take k)
        have hb2 : ((xs.take k).length : Int) ≤ k := by simp; omega
        clear hx hE
        generalize cnt node (xs.take k) = d at *
        go_wp2
        go_roundw
        case rel => exact ⟨k + 1, by omega, by go_num, by rw [HS.out], by (repeat (first | with_reducible exact Ext.refl _ | with_reducible assumption | with_reducible refine Ext.alloc ?_ _ | with_reducible refine Ext.drew ?_ | with_reducible refine Ext.drewN ?_ _ | (with_reducible refine Ext.setCell' ?_ ?_ _; (first | (with_reducible exact Nat.le_refl _) | omega | (dsimp only; omega) | (simp only [World.size_alloc]; omega))) | (with_reducible apply Ext.trans'; with_reducible assumption) | exact (Ext.refl _).drew | (refine Ext.drew ?_; assumption)))⟩
        case measure => simp [intOf]; omega
    case neg =>
      have hkn : xs.take k = xs := List.take_of_length_le (by have := HL.out; omega)
      have HK := Lib.hid hkn
      clear hkn
      go_wp2
      go_ret
      exact ⟨ret_int (by rw [HK.out]), eW.trans he⟩

end Go.Proofs.Ytefkjkbipkcncaa
