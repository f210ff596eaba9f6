/-
  EdgesFrom and EdgesTo of the reference.
-/
import Derived.Test.YtefkjkbipkcncaaGraphL
import Derived.Test.YtefkjkbipkcncaaSelPure
namespace Go.Proofs.Ytefkjkbipkcncaa
open Go.ChangeShapes Go.WideShapes Go.ChangeAt Go.RowKit
set_option linter.unusedVariables false

set_option maxHeartbeats 1600000 in
theorem from_spec (sz : Int) (A : Option Addr) (n c : Nat) (xs : List Tri) (node : Int) (hn : n ≤ 1048576) (w : World) (hr : Rd w 3 A n (tris xs)) :
    Calls Try.prog 77 #[.agg #[.int .i64 sz, .slice A n c], .int .i64 node] w (OwnPost w 3 1 (selIdx (fun e : Tri => e.a == node) xs).length (ints (selIdx (fun e : Tri => e.a == node) xs))) := by
  have HL := Lib.hid hr.trilen
  have eW : Ext w (w.alloc (.cells #[.int .i64 sz, .slice A n c] 43)) := (Ext.refl w).alloc _
  have HR := Lib.hid (hr.ext eW)
  obtain ⟨W, hW⟩ : ∃ W, w.alloc (.cells #[.int .i64 sz, .slice A n c] 43) = W := ⟨_, rfl⟩
  rw [hW] at eW HR
  have HW := Lib.hid hW
  clear hW
  have hzx : w.heap.size < W.heap.size := by rw [← HW.out]; simp
  have hbx : W.cell? ⟨w.heap.size, 1, none⟩ = some (.slice A n c) := by rw [← HW.out]; go_simp
  have hbx0 : W.cell? ⟨w.heap.size, 0, none⟩ = some (.int .i64 sz) := by rw [← HW.out]; go_simp
  go_enter Try.func77, Try.ntmps77
  go_wp2
  rw [HW.out]
  go_loopw [5, 6] (fun v i wr => ∃ k : Nat, k ≤ n ∧ i = .int .i64 k ∧ wr.ownsRow W.heap.size 3 1 v (selIdx (fun e : Tri => e.a == node) (xs.take k)).length (ints (selIdx (fun e : Tri => e.a == node) (xs.take k))) ∧ Ext W wr) (fun _ i _ => n - (intOf i).toNat)
  case atStart => exact ⟨0, Nat.zero_le _, rfl, (by rw [show w.heap.size + 1 = W.heap.size by rw [← HW.out]; simp]; exact own_new W 3 [] 0 1 0 W.heap.size (Nat.le_refl _) rfl (by omega) (by unfold maxLen; omega)), (Ext.refl W).alloc _⟩
  case round =>
    obtain ⟨k, hk, rfl, ho, he⟩ := hrel
    have hcb := (he.cell w.heap.size 1 hzx).trans hbx
    by_cases hlt : k < n
    case pos =>
      obtain ⟨b, o, e, rfl, hbb, hx, hc0, hc1, hc2⟩ := (HR.out.ext he).tri hlt
      by_cases hE : e.a = node
      case pos =>
        have hq : (e.a == node) = true := by simpa using hE
        have HS := Lib.hid (show selIdx (fun e : Tri => e.a == node) (xs.take (k + 1)) = selIdx (fun e : Tri => e.a == node) (xs.take k) ++ [(k : Int)] by rw [sel_take _ xs k e hx]; simp [hE])
        have HE := Lib.hid hE
        have hsl := sel_len (fun e : Tri => e.a == node) (xs.take k)
        have hsl2 : (xs.take k).length ≤ k := List.length_take_le _ _
        have HO := Lib.hid (ho.alloc (.cells #[.int .i64 (k : Int)] 3))
        have HRn := Lib.hid (Rd.new wr 3 (ints [(k : Int)]) 1 1 rfl)
        have hz := he.size
        have eA := he.alloc (.cells #[.int .i64 (k : Int)] 3)
        clear hx hE ho
        go_wp2_with (at_builtin; refine wpList_append_int _ rfl _ _ rfl W.heap.size _ _ _ rfl HO.out _ _ _ _ rfl HRn.out (by omega) (by simp; omega) ?_; intro v' w' ho' hg' hv')
        have hE2 := Lib.hid (ext_grown_own (w0 := W) eA HO.out hg' (Nat.le_refl _))
        rw [← HS.out, show (selIdx (fun e : Tri => e.a == node) (xs.take k)).length + 1 = (selIdx (fun e : Tri => e.a == node) (xs.take (k + 1))).length by rw [HS.out]; simp] at ho'
        have HO3 := Lib.hid ho'
        clear ho' hg' hv'
        go_wp2
        go_roundw
        case rel => exact ⟨k + 1, by omega, by go_num, HO3.out, hE2.out⟩
        case measure => simp [intOf]; omega
      case neg =>
        have hq : (e.a == node) = false := by simpa using hE
        have HS := Lib.hid (show selIdx (fun e : Tri => e.a == node) (xs.take (k + 1)) = selIdx (fun e : Tri => e.a == node) (xs.take k) by rw [sel_take _ xs k e hx]; simp [hE])
        have HE := Lib.hid hE
        have HO := Lib.hid ho
        clear hx hE ho
        go_wp2
        go_roundw
        case rel => exact ⟨k + 1, by omega, by go_num, by rw [HS.out]; exact HO.out, he⟩
        case measure => simp [intOf]; omega
    case neg =>
      have hkn : xs.take k = xs := List.take_of_length_le (by have := HL.out; omega)
      rw [hkn] at ho
      have HO := Lib.hid ho
      clear hkn ho
      go_wp2
      go_ret
      exact ⟨_, rfl, own_lower HO.out eW.size, eW.trans he⟩
set_option maxHeartbeats 1600000 in
theorem to_spec (sz : Int) (A : Option Addr) (n c : Nat) (xs : List Tri) (node : Int) (hn : n ≤ 1048576) (w : World) (hr : Rd w 3 A n (tris xs)) :
    Calls Try.prog 78 #[.agg #[.int .i64 sz, .slice A n c], .int .i64 node] w (OwnPost w 3 1 (selIdx (fun e : Tri => e.b == node) xs).length (ints (selIdx (fun e : Tri => e.b == node) xs))) := by
  have HL := Lib.hid hr.trilen
  have eW : Ext w (w.alloc (.cells #[.int .i64 sz, .slice A n c] 43)) := (Ext.refl w).alloc _
  have HR := Lib.hid (hr.ext eW)
  obtain ⟨W, hW⟩ : ∃ W, w.alloc (.cells #[.int .i64 sz, .slice A n c] 43) = W := ⟨_, rfl⟩
  rw [hW] at eW HR
  have HW := Lib.hid hW
  clear hW
  have hzx : w.heap.size < W.heap.size := by rw [← HW.out]; simp
  have hbx : W.cell? ⟨w.heap.size, 1, none⟩ = some (.slice A n c) := by rw [← HW.out]; go_simp
  have hbx0 : W.cell? ⟨w.heap.size, 0, none⟩ = some (.int .i64 sz) := by rw [← HW.out]; go_simp
  go_enter Try.func78, Try.ntmps78
  go_wp2
  rw [HW.out]
  go_loopw [5, 6] (fun v i wr => ∃ k : Nat, k ≤ n ∧ i = .int .i64 k ∧ wr.ownsRow W.heap.size 3 1 v (selIdx (fun e : Tri => e.b == node) (xs.take k)).length (ints (selIdx (fun e : Tri => e.b == node) (xs.take k))) ∧ Ext W wr) (fun _ i _ => n - (intOf i).toNat)
  case atStart => exact ⟨0, Nat.zero_le _, rfl, (by rw [show w.heap.size + 1 = W.heap.size by rw [← HW.out]; simp]; exact own_new W 3 [] 0 1 0 W.heap.size (Nat.le_refl _) rfl (by omega) (by unfold maxLen; omega)), (Ext.refl W).alloc _⟩
  case round =>
    obtain ⟨k, hk, rfl, ho, he⟩ := hrel
    have hcb := (he.cell w.heap.size 1 hzx).trans hbx
    by_cases hlt : k < n
    case pos =>
      obtain ⟨b, o, e, rfl, hbb, hx, hc0, hc1, hc2⟩ := (HR.out.ext he).tri hlt
      by_cases hE : e.b = node
      case pos =>
        have hq : (e.b == node) = true := by simpa using hE
        have HS := Lib.hid (show selIdx (fun e : Tri => e.b == node) (xs.take (k + 1)) = selIdx (fun e : Tri => e.b == node) (xs.take k) ++ [(k : Int)] by rw [sel_take _ xs k e hx]; simp [hE])
        have HE := Lib.hid hE
        have hsl := sel_len (fun e : Tri => e.b == node) (xs.take k)
        have hsl2 : (xs.take k).length ≤ k := List.length_take_le _ _
        have HO := Lib.hid (ho.alloc (.cells #[.int .i64 (k : Int)] 3))
        have HRn := Lib.hid (Rd.new wr 3 (ints [(k : Int)]) 1 1 rfl)
        have hz := he.size
        have eA := he.alloc (.cells #[.int .i64 (k : Int)] 3)
        clear hx hE ho
        go_wp2_with (at_builtin; refine wpList_append_int _ rfl _ _ rfl W.heap.size _ _ _ rfl HO.out _ _ _ _ rfl HRn.out (by omega) (by simp; omega) ?_; intro v' w' ho' hg' hv')
        have hE2 := Lib.hid (ext_grown_own (w0 := W) eA HO.out hg' (Nat.le_refl _))
        rw [← HS.out, show (selIdx (fun e : Tri => e.b == node) (xs.take k)).length + 1 = (selIdx (fun e : Tri => e.b == node) (xs.take (k + 1))).length by rw [HS.out]; simp] at ho'
        have HO3 := Lib.hid ho'
        clear ho' hg' hv'
        go_wp2
        go_roundw
        case rel => exact ⟨k + 1, by omega, by go_num, HO3.out, hE2.out⟩
        case measure => simp [intOf]; omega
      case neg =>
        have hq : (e.b == node) = false := by simpa using hE
        have HS := Lib.hid (show selIdx (fun e : Tri => e.b == node) (xs.take (k + 1)) = selIdx (fun e : Tri => e.b == node) (xs.take k) by rw [sel_take _ xs k e hx]; simp [hE])
        have HE := Lib.hid hE
        have HO := Lib.hid ho
        clear hx hE ho
        go_wp2
        go_roundw
        case rel => exact ⟨k + 1, by omega, by go_num, by rw [HS.out]; exact HO.out, he⟩
        case measure => simp [intOf]; omega
    case neg =>
      have hkn : xs.take k = xs := List.take_of_length_le (by have := HL.out; omega)
      rw [hkn] at ho
      have HO := Lib.hid ho
      clear hkn ho
      go_wp2
      go_ret
      exact ⟨_, rfl, own_lower HO.out eW.size, eW.trans he⟩

end Go.Proofs.Ytefkjkbipkcncaa
