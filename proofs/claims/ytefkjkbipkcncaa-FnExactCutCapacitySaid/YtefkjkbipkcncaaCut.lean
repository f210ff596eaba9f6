/-
  CutCapacity of the program and of the reference.
-/
import Derived.Test.YtefkjkbipkcncaaGraphL
import Derived.Test.YtefkjkbipkcncaaHas
namespace Go.Proofs.Ytefkjkbipkcncaa
open Go.ChangeShapes Go.WideShapes Go.ChangeAt Go.RowKit
set_option linter.unusedVariables false

def cutStep (ns : List Int) (s : Int) (e : Tri) : Int := if hasB ns e.a = true ∧ hasB ns e.b = false then wrap64 (s + e.c) else s
/-- The capacity of the cut of the nodes ns. -/
def cutv (ns : List Int) (es : List Tri) : Int := es.foldl (cutStep ns) 0
theorem cut_take (ns : List Int) (es : List Tri) (k : Nat) (e : Tri) (h : es[k]? = some e) : cutv ns (es.take (k + 1)) = cutStep ns (cutv ns (es.take k)) e := by
  rw [List.take_add_one, h]
  simp [cutv]

set_option maxHeartbeats 1600000 in
theorem cut_impl (sz : Int) (A : Option Addr) (n c : Nat) (xs : List Tri) (B : Option Addr) (m d : Nat) (ns : List Int) (hm : m ≤ 1048576) (hn : n ≤ 1048576) (w : World) (hr : Rd w 3 A n (tris xs)) (hb : Rd w 1 B m (ints ns)) :
    Calls Try.prog 32 #[.agg #[.int .i64 sz, .slice A n c], .slice B m d] w fun e w' => e = .returned (.int .i64 (cutv ns xs)) ∧ Ext w w' := by
  have HL := Lib.hid hr.trilen
  have eW : Ext w (w.alloc (.cells #[.int .i64 sz, .slice A n c] 43)) := (Ext.refl w).alloc _
  have HR := Lib.hid (hr.ext eW)
  have HN := Lib.hid (hb.ext eW)
  obtain ⟨W, hW⟩ : ∃ W, w.alloc (.cells #[.int .i64 sz, .slice A n c] 43) = W := ⟨_, rfl⟩
  rw [hW] at eW HR HN
  have HW := Lib.hid hW
  clear hW
  have hzx : w.heap.size < W.heap.size := by rw [← HW.out]; simp
  have hbx : W.cell? ⟨w.heap.size, 1, none⟩ = some (.slice A n c) := by rw [← HW.out]; go_simp
  have hbx0 : W.cell? ⟨w.heap.size, 0, none⟩ = some (.int .i64 sz) := by rw [← HW.out]; go_simp
  go_enter Try.func32, Try.ntmps32
  go_wp2
  rw [HW.out]
  go_loopw [5, 11] (fun s i wr => ∃ k : Nat, k ≤ n ∧ i = .int .i64 k ∧ s = .int .i64 (cutv ns (xs.take k)) ∧ Ext W wr) (fun _ i _ => n - (intOf i).toNat)
  case atStart => exact ⟨0, Nat.zero_le _, rfl, rfl, Ext.refl _⟩
  case round =>
    obtain ⟨k, hk, rfl, rfl, he⟩ := hrel
    have hcb := (he.cell w.heap.size 1 hzx).trans hbx
    by_cases hlt : k < n
    case pos =>
      obtain ⟨b, o, e, rfl, hbb, hx, hc0, hc1, hc2⟩ := (HR.out.ext he).tri hlt
      have hne : b ≠ wr.heap.size := by omega
      cases h1 : hasB ns e.a with
      | false =>
        have HS := Lib.hid (show cutv ns (xs.take (k + 1)) = cutv ns (xs.take k) by rw [cut_take ns xs k e hx]; simp [cutStep, h1])
        clear hx
        generalize cutv ns (xs.take k) = d at *
        go_wp2_with (go_at_call 73; refine (contains_int _ _ _ _ _ (by omega) _ ((HN.out.ext he).alloc _)).mono ?_; rintro e w' ⟨rfl, rfl⟩)
        go_roundw
        case rel => exact ⟨k + 1, by omega, by go_num, by rw [HS.out], by (repeat (first | with_reducible exact Ext.refl _ | with_reducible assumption | with_reducible refine Ext.alloc ?_ _ | with_reducible refine Ext.drew ?_ | with_reducible refine Ext.drewN ?_ _ | (with_reducible refine Ext.setCell' ?_ ?_ _; (first | (with_reducible exact Nat.le_refl _) | omega | (dsimp only; omega) | (simp only [World.size_alloc]; omega))) | (with_reducible apply Ext.trans'; with_reducible assumption) | exact (Ext.refl _).drew | (refine Ext.drew ?_; assumption)))⟩
        case measure => simp [intOf]; omega
      | true =>
        cases h2 : hasB ns e.b with
        | true =>
          have HS := Lib.hid (show cutv ns (xs.take (k + 1)) = cutv ns (xs.take k) by rw [cut_take ns xs k e hx]; simp [cutStep, h1, h2])
          clear hx
          generalize cutv ns (xs.take k) = d at *
          go_wp2_with (go_at_call 73; refine (contains_int _ _ _ _ _ (by omega) _ ((HN.out.ext he).alloc _)).mono ?_; rintro e w' ⟨rfl, rfl⟩)
          go_roundw
          case rel => exact ⟨k + 1, by omega, by go_num, by rw [HS.out], by (repeat (first | with_reducible exact Ext.refl _ | with_reducible assumption | with_reducible refine Ext.alloc ?_ _ | with_reducible refine Ext.drew ?_ | with_reducible refine Ext.drewN ?_ _ | (with_reducible refine Ext.setCell' ?_ ?_ _; (first | (with_reducible exact Nat.le_refl _) | omega | (dsimp only; omega) | (simp only [World.size_alloc]; omega))) | (with_reducible apply Ext.trans'; with_reducible assumption) | exact (Ext.refl _).drew | (refine Ext.drew ?_; assumption)))⟩
          case measure => simp [intOf]; omega
        | false =>
          have HS := Lib.hid (show cutv ns (xs.take (k + 1)) = wrap64 (cutv ns (xs.take k) + e.c) by rw [cut_take ns xs k e hx]; simp [cutStep, h1, h2])
          clear hx
          generalize cutv ns (xs.take k) = d at *
          go_wp2_with (go_at_call 73; refine (contains_int _ _ _ _ _ (by omega) _ ((HN.out.ext he).alloc _)).mono ?_; rintro e w' ⟨rfl, rfl⟩)
          go_roundw
          case rel => exact ⟨k + 1, by omega, by go_num, by rw [HS.out], by (repeat (first | with_reducible exact Ext.refl _ | with_reducible assumption | with_reducible refine Ext.alloc ?_ _ | with_reducible refine Ext.drew ?_ | with_reducible refine Ext.drewN ?_ _ | (with_reducible refine Ext.setCell' ?_ ?_ _; (first | (with_reducible exact Nat.le_refl _) | omega | (dsimp only; omega) | (simp only [World.size_alloc]; omega))) | (with_reducible apply Ext.trans'; with_reducible assumption) | exact (Ext.refl _).drew | (refine Ext.drew ?_; assumption)))⟩
          case measure => simp [intOf]; omega
    case neg =>
      have HK := Lib.hid (show xs.take k = xs from List.take_of_length_le (by have := HL.out; omega))
      go_wp2
      go_ret
      exact ⟨ret_int (by rw [HK.out]), eW.trans he⟩

set_option maxHeartbeats 1600000 in
theorem cut_spec (sz : Int) (A : Option Addr) (n c : Nat) (xs : List Tri) (B : Option Addr) (m d : Nat) (ns : List Int) (hm : m ≤ 1048576) (hn : n ≤ 1048576) (w : World) (hr : Rd w 3 A n (tris xs)) (hb : Rd w 1 B m (ints ns)) :
    Calls Try.prog 31 #[.agg #[.int .i64 sz, .slice A n c], .slice B m d] w fun e w' => e = .returned (.int .i64 (cutv ns xs)) ∧ Ext w w' := by
  have HL := Lib.hid hr.trilen
  have eW : Ext w (w.alloc (.cells #[.int .i64 sz, .slice A n c] 43)) := (Ext.refl w).alloc _
  have HR := Lib.hid (hr.ext eW)
  have HN := Lib.hid (hb.ext eW)
  obtain ⟨W, hW⟩ : ∃ W, w.alloc (.cells #[.int .i64 sz, .slice A n c] 43) = W := ⟨_, rfl⟩
  rw [hW] at eW HR HN
  have HW := Lib.hid hW
  clear hW
  have hzx : w.heap.size < W.heap.size := by rw [← HW.out]; simp
  have hbx : W.cell? ⟨w.heap.size, 1, none⟩ = some (.slice A n c) := by rw [← HW.out]; go_simp
  have hbx0 : W.cell? ⟨w.heap.size, 0, none⟩ = some (.int .i64 sz) := by rw [← HW.out]; go_simp
  go_enter Try.func31, Try.ntmps31
  go_wp2
  rw [HW.out]
  go_loopw [5, 6] (fun s i wr => ∃ k : Nat, k ≤ n ∧ i = .int .i64 k ∧ s = .int .i64 (cutv ns (xs.take k)) ∧ Ext W wr) (fun _ i _ => n - (intOf i).toNat)
  case atStart => exact ⟨0, Nat.zero_le _, rfl, rfl, Ext.refl _⟩
  case round =>
    obtain ⟨k, hk, rfl, rfl, he⟩ := hrel
    have hcb := (he.cell w.heap.size 1 hzx).trans hbx
    by_cases hlt : k < n
    case pos =>
      obtain ⟨b, o, e, rfl, hbb, hx, hc0, hc1, hc2⟩ := (HR.out.ext he).tri hlt
      have hne : b ≠ wr.heap.size := by omega
      cases h1 : hasB ns e.a with
      | false =>
        have HS := Lib.hid (show cutv ns (xs.take (k + 1)) = cutv ns (xs.take k) by rw [cut_take ns xs k e hx]; simp [cutStep, h1])
        clear hx
        generalize cutv ns (xs.take k) = d at *
        go_wp2_with (go_at_call 72; refine (has_spec _ _ _ _ _ (by omega) _ (HN.out.ext he)).mono ?_; rintro e w' ⟨rfl, rfl⟩)
        go_roundw
        case rel => exact ⟨k + 1, by omega, by go_num, by rw [HS.out], by (repeat (first | with_reducible exact Ext.refl _ | with_reducible assumption | with_reducible refine Ext.alloc ?_ _ | with_reducible refine Ext.drew ?_ | with_reducible refine Ext.drewN ?_ _ | (with_reducible refine Ext.setCell' ?_ ?_ _; (first | (with_reducible exact Nat.le_refl _) | omega | (dsimp only; omega) | (simp only [World.size_alloc]; omega))) | (with_reducible apply Ext.trans'; with_reducible assumption) | exact (Ext.refl _).drew | (refine Ext.drew ?_; assumption)))⟩
        case measure => simp [intOf]; omega
      | true =>
        cases h2 : hasB ns e.b with
        | true =>
          have HS := Lib.hid (show cutv ns (xs.take (k + 1)) = cutv ns (xs.take k) by rw [cut_take ns xs k e hx]; simp [cutStep, h1, h2])
          clear hx
          generalize cutv ns (xs.take k) = d at *
          go_wp2_with (go_at_call 72; refine (has_spec _ _ _ _ _ (by omega) _ (HN.out.ext he)).mono ?_; rintro e w' ⟨rfl, rfl⟩)
          go_roundw
          case rel => exact ⟨k + 1, by omega, by go_num, by rw [HS.out], by (repeat (first | with_reducible exact Ext.refl _ | with_reducible assumption | with_reducible refine Ext.alloc ?_ _ | with_reducible refine Ext.drew ?_ | with_reducible refine Ext.drewN ?_ _ | (with_reducible refine Ext.setCell' ?_ ?_ _; (first | (with_reducible exact Nat.le_refl _) | omega | (dsimp only; omega) | (simp only [World.size_alloc]; omega))) | (with_reducible apply Ext.trans'; with_reducible assumption) | exact (Ext.refl _).drew | (refine Ext.drew ?_; assumption)))⟩
          case measure => simp [intOf]; omega
        | false =>
          have HS := Lib.hid (show cutv ns (xs.take (k + 1)) = wrap64 (cutv ns (xs.take k) + e.c) by rw [cut_take ns xs k e hx]; simp [cutStep, h1, h2])
          clear hx
          generalize cutv ns (xs.take k) = d at *
          go_wp2_with (go_at_call 72; refine (has_spec _ _ _ _ _ (by omega) _ (HN.out.ext he)).mono ?_; rintro e w' ⟨rfl, rfl⟩)
          go_roundw
          case rel => exact ⟨k + 1, by omega, by go_num, by rw [HS.out], by (repeat (first | with_reducible exact Ext.refl _ | with_reducible assumption | with_reducible refine Ext.alloc ?_ _ | with_reducible refine Ext.drew ?_ | with_reducible refine Ext.drewN ?_ _ | (with_reducible refine Ext.setCell' ?_ ?_ _; (first | (with_reducible exact Nat.le_refl _) | omega | (dsimp only; omega) | (simp only [World.size_alloc]; omega))) | (with_reducible apply Ext.trans'; with_reducible assumption) | exact (Ext.refl _).drew | (refine Ext.drew ?_; assumption)))⟩
          case measure => simp [intOf]; omega
    case neg =>
      have HK := Lib.hid (show xs.take k = xs from List.take_of_length_le (by have := HL.out; omega))
      go_wp2
      go_ret
      exact ⟨ret_int (by rw [HK.out]), eW.trans he⟩

end Go.Proofs.Ytefkjkbipkcncaa
