/-
  IsOverloaded of the program and of the reference.
-/
import Derived.Test.YtefkjkbipkcncaaGraphL
import Derived.Test.YtefkjkbipkcncaaHas
namespace Go.Proofs.Ytefkjkbipkcncaa
open Go.ChangeShapes Go.WideShapes Go.ChangeAt Go.RowKit
set_option linter.unusedVariables false

def OvAt (es : List Tri) (ls : List Int) (i : Nat) : Prop := ∃ e y, es[i]? = some e ∧ ls[i]? = some y ∧ e.c < y
/-- Some edge is overloaded. -/
noncomputable def ovB (es : List Tri) (ls : List Int) : Bool := @decide (∃ i, OvAt es ls i) (Classical.propDecidable _)
theorem ov_yes {xs : List Tri} {ns : List Int} {k : Nat} {e : Tri} {y : Int} (h1 : xs[k]? = some e) (h2 : ns[k]? = some y) (h3 : e.c < y) : ovB xs ns = true := @decide_eq_true _ (Classical.propDecidable _) ⟨k, e, y, h1, h2, h3⟩
theorem ov_no {xs : List Tri} {ns : List Int} (h : ∀ i, ¬ OvAt xs ns i) : ovB xs ns = false := @decide_eq_false _ (Classical.propDecidable _) (fun ⟨i, hi⟩ => h i hi)

set_option maxHeartbeats 1600000 in
theorem over_impl (sz : Int) (A : Option Addr) (n c : Nat) (xs : List Tri) (B : Option Addr) (m d : Nat) (ns : List Int) (hm : m ≤ 1048576) (hn : n ≤ 1048576) (w : World) (hr : Rd w 3 A n (tris xs)) (hb : Rd w 1 B m (ints ns)) :
    Calls Try.prog 28 #[.agg #[.int .i64 sz, .slice A n c], .slice B m d] w fun e w' => e = .returned (.bool (ovB xs ns)) ∧ Ext w w' := by
  have HL := Lib.hid hr.trilen
  have eW : Ext w (w.alloc (.cells #[.int .i64 sz, .slice A n c] 43)) := (Ext.refl w).alloc _
  have HR := Lib.hid (hr.ext eW)
  have HN := Lib.hid (hb.ext eW)
  have HM := Lib.hid hb.len
  obtain ⟨W, hW⟩ : ∃ W, w.alloc (.cells #[.int .i64 sz, .slice A n c] 43) = W := ⟨_, rfl⟩
  rw [hW] at eW HR HN
  have HN2 := HN
  clear HN
  have HW := Lib.hid hW
  clear hW
  have hzx : w.heap.size < W.heap.size := by rw [← HW.out]; simp
  have hbx : W.cell? ⟨w.heap.size, 1, none⟩ = some (.slice A n c) := by rw [← HW.out]; go_simp
  have hbx0 : W.cell? ⟨w.heap.size, 0, none⟩ = some (.int .i64 sz) := by rw [← HW.out]; go_simp
  go_enter Try.func28, Try.ntmps28
  go_wp2
  rw [HW.out]
  go_loopw [10] (fun i wr => ∃ k : Nat, k ≤ n ∧ i = .int .i64 k ∧ Hid (∀ i, i < k → ¬ OvAt xs ns i) ∧ Ext W wr) (fun i _ => n - (intOf i).toNat)
  case atStart => exact ⟨0, Nat.zero_le _, rfl, fun i hi => absurd hi (by omega), Ext.refl _⟩
  case round =>
    obtain ⟨k, hk, rfl, HB, he⟩ := hrel
    have hcb := (he.cell w.heap.size 1 hzx).trans hbx
    by_cases hlt : k < n
    case pos =>
      obtain ⟨b, o, e, rfl, hbb, hx, hc0, hc1, hc2⟩ := (HR.out.ext he).tri hlt
      have hne : b ≠ wr.heap.size := by omega
      have k0 : (0 : Int) ≤ k := by omega
      have k1 : (k : Int) < n := by omega
      by_cases hl2 : k < m
      case pos =>
        obtain ⟨b2, o2, y, rfl, hb2, hy, hd⟩ := (HN2.out.ext he).int hl2
        have hne2 : b2 ≠ wr.heap.size := by omega
        have k2 : (k : Int) < m := by omega
        have k3 : decide ((k : Int) < m) = true := decide_eq_true k2
        have k4 : decide (k < m) = true := decide_eq_true hl2
        by_cases hov : e.c < y
        case pos =>
          have HV := Lib.hid (ov_yes (k := k) hx hy hov)
          have hov' : decide (e.c < y) = true := decide_eq_true hov
          clear hx hy
          go_wp2
          go_quiet (fail)
          go_wp2
          go_ret
          exact ⟨ret_bool HV.out.symm, by (repeat (first | with_reducible exact Ext.refl _ | with_reducible assumption | with_reducible refine Ext.alloc ?_ _ | with_reducible refine Ext.drew ?_ | with_reducible refine Ext.drewN ?_ _ | (with_reducible refine Ext.setCell' ?_ ?_ _; (first | (with_reducible exact Nat.le_refl _) | omega | (dsimp only; omega) | (simp only [World.size_alloc]; omega))) | (with_reducible apply Ext.trans'; with_reducible assumption) | exact (Ext.refl _).drew | (refine Ext.drew ?_; assumption)))⟩
        have hov' : decide (e.c < y) = false := decide_eq_false hov
        have HN := Lib.hid (show ∀ i, i < k + 1 → ¬ OvAt xs ns i from fun i hi => by
      rcases Nat.lt_or_ge i k with h | h
      · exact HB.out i h
      · obtain rfl : i = k := (by omega)
        intro ⟨e', y', h1, h2, h3⟩
        rw [hx] at h1
        injection h1 with h1
        subst h1
        rw [hy] at h2
        injection h2 with h2
        subst h2
        exact hov h3)
        clear hx hy
        go_wp2
        go_quiet (fail)
        go_wp2
        go_roundw
        case rel => exact ⟨k + 1, by omega, by go_num, HN, by (repeat (first | with_reducible exact Ext.refl _ | with_reducible assumption | with_reducible refine Ext.alloc ?_ _ | with_reducible refine Ext.drew ?_ | with_reducible refine Ext.drewN ?_ _ | (with_reducible refine Ext.setCell' ?_ ?_ _; (first | (with_reducible exact Nat.le_refl _) | omega | (dsimp only; omega) | (simp only [World.size_alloc]; omega))) | (with_reducible apply Ext.trans'; with_reducible assumption) | exact (Ext.refl _).drew | (refine Ext.drew ?_; assumption)))⟩
        case measure => simp [intOf]; omega
      case neg =>
        have HN := Lib.hid (show ∀ i, i < k + 1 → ¬ OvAt xs ns i from fun i hi => by
      rcases Nat.lt_or_ge i k with h | h
      · exact HB.out i h
      · obtain rfl : i = k := (by omega)
        intro ⟨e', y', h1, h2, h3⟩
        rw [hx] at h1
        injection h1 with h1
        subst h1
        have := (List.getElem?_eq_some_iff.1 h2).1
        have := HM.out
        omega)
        have k3 : decide ((k : Int) < m) = false := decide_eq_false (by omega)
        have k4 : decide (k < m) = false := decide_eq_false hl2
        clear hx
        go_wp2
        go_quiet (fail)
        go_wp2
        go_roundw
        case rel => exact ⟨k + 1, by omega, by go_num, HN, by (repeat (first | with_reducible exact Ext.refl _ | with_reducible assumption | with_reducible refine Ext.alloc ?_ _ | with_reducible refine Ext.drew ?_ | with_reducible refine Ext.drewN ?_ _ | (with_reducible refine Ext.setCell' ?_ ?_ _; (first | (with_reducible exact Nat.le_refl _) | omega | (dsimp only; omega) | (simp only [World.size_alloc]; omega))) | (with_reducible apply Ext.trans'; with_reducible assumption) | exact (Ext.refl _).drew | (refine Ext.drew ?_; assumption)))⟩
        case measure => simp [intOf]; omega
    case neg =>
      have HV := Lib.hid (ov_no (xs := xs) (ns := ns) (fun i => by
    intro h
    have h' := h
    obtain ⟨e', y', h1, h2, h3⟩ := h
    have := (List.getElem?_eq_some_iff.1 h1).1
    have := HL.out
    exact HB.out i (by omega) h'))
      go_wp2
      go_ret
      exact ⟨ret_bool HV.out.symm, eW.trans he⟩

set_option maxHeartbeats 1600000 in
theorem over_spec (sz : Int) (A : Option Addr) (n c : Nat) (xs : List Tri) (B : Option Addr) (m d : Nat) (ns : List Int) (hm : m ≤ 1048576) (hn : n ≤ 1048576) (w : World) (hr : Rd w 3 A n (tris xs)) (hb : Rd w 1 B m (ints ns)) :
    Calls Try.prog 25 #[.agg #[.int .i64 sz, .slice A n c], .slice B m d] w fun e w' => e = .returned (.bool (ovB xs ns)) ∧ Ext w w' := by
  have HL := Lib.hid hr.trilen
  have eW : Ext w (w.alloc (.cells #[.int .i64 sz, .slice A n c] 43)) := (Ext.refl w).alloc _
  have HR := Lib.hid (hr.ext eW)
  have HN := Lib.hid (hb.ext eW)
  have HM := Lib.hid hb.len
  obtain ⟨W, hW⟩ : ∃ W, w.alloc (.cells #[.int .i64 sz, .slice A n c] 43) = W := ⟨_, rfl⟩
  rw [hW] at eW HR HN
  have HN2 := HN
  clear HN
  have HW := Lib.hid hW
  clear hW
  have hzx : w.heap.size < W.heap.size := by rw [← HW.out]; simp
  have hbx : W.cell? ⟨w.heap.size, 1, none⟩ = some (.slice A n c) := by rw [← HW.out]; go_simp
  have hbx0 : W.cell? ⟨w.heap.size, 0, none⟩ = some (.int .i64 sz) := by rw [← HW.out]; go_simp
  go_enter Try.func25, Try.ntmps25
  go_wp2
  rw [HW.out]
  go_loopw [5] (fun i wr => ∃ k : Nat, k ≤ n ∧ i = .int .i64 k ∧ Hid (∀ i, i < k → ¬ OvAt xs ns i) ∧ Ext W wr) (fun i _ => n - (intOf i).toNat)
  case atStart => exact ⟨0, Nat.zero_le _, rfl, fun i hi => absurd hi (by omega), Ext.refl _⟩
  case round =>
    obtain ⟨k, hk, rfl, HB, he⟩ := hrel
    have hcb := (he.cell w.heap.size 1 hzx).trans hbx
    by_cases hlt : k < n
    case pos =>
      obtain ⟨b, o, e, rfl, hbb, hx, hc0, hc1, hc2⟩ := (HR.out.ext he).tri hlt
      have hne : b ≠ wr.heap.size := by omega
      have k0 : (0 : Int) ≤ k := by omega
      have k1 : (k : Int) < n := by omega
      by_cases hl2 : k < m
      case pos =>
        obtain ⟨b2, o2, y, rfl, hb2, hy, hd⟩ := (HN2.out.ext he).int hl2
        have hne2 : b2 ≠ wr.heap.size := by omega
        have k2 : (k : Int) < m := by omega
        have k3 : decide ((k : Int) < m) = true := decide_eq_true k2
        have k4 : decide (k < m) = true := decide_eq_true hl2
        by_cases hov : e.c < y
        case pos =>
          have HV := Lib.hid (ov_yes (k := k) hx hy hov)
          have hov' : decide (e.c < y) = true := decide_eq_true hov
          clear hx hy
          go_wp2
          go_quiet (fail)
          go_wp2
          go_ret
          exact ⟨ret_bool HV.out.symm, by (repeat (first | with_reducible exact Ext.refl _ | with_reducible assumption | with_reducible refine Ext.alloc ?_ _ | with_reducible refine Ext.drew ?_ | with_reducible refine Ext.drewN ?_ _ | (with_reducible refine Ext.setCell' ?_ ?_ _; (first | (with_reducible exact Nat.le_refl _) | omega | (dsimp only; omega) | (simp only [World.size_alloc]; omega))) | (with_reducible apply Ext.trans'; with_reducible assumption) | exact (Ext.refl _).drew | (refine Ext.drew ?_; assumption)))⟩
        have hov' : decide (e.c < y) = false := decide_eq_false hov
        have HN := Lib.hid (show ∀ i, i < k + 1 → ¬ OvAt xs ns i from fun i hi => by
      rcases Nat.lt_or_ge i k with h | h
      · exact HB.out i h
      · obtain rfl : i = k := (by omega)
        intro ⟨e', y', h1, h2, h3⟩
        rw [hx] at h1
        injection h1 with h1
        subst h1
        rw [hy] at h2
        injection h2 with h2
        subst h2
        exact hov h3)
        clear hx hy
        go_wp2
        go_quiet (fail)
        go_wp2
        go_roundw
        case rel => exact ⟨k + 1, by omega, by go_num, HN, by (repeat (first | with_reducible exact Ext.refl _ | with_reducible assumption | with_reducible refine Ext.alloc ?_ _ | with_reducible refine Ext.drew ?_ | with_reducible refine Ext.drewN ?_ _ | (with_reducible refine Ext.setCell' ?_ ?_ _; (first | (with_reducible exact Nat.le_refl _) | omega | (dsimp only; omega) | (simp only [World.size_alloc]; omega))) | (with_reducible apply Ext.trans'; with_reducible assumption) | exact (Ext.refl _).drew | (refine Ext.drew ?_; assumption)))⟩
        case measure => simp [intOf]; omega
      case neg =>
        have HV := Lib.hid (ov_no (xs := xs) (ns := ns) (fun i => by
    intro h
    have h' := h
    obtain ⟨e', y', h1, h2, h3⟩ := h
    have := (List.getElem?_eq_some_iff.1 h1).1
    have := (List.getElem?_eq_some_iff.1 h2).1
    have := HL.out
    have := HM.out
    exact HB.out i (by omega) h'))
        have k3 : decide ((k : Int) < m) = false := decide_eq_false (by omega)
        have k4 : decide (k < m) = false := decide_eq_false hl2
        go_wp2
        go_ret
        exact ⟨ret_bool HV.out.symm, eW.trans he⟩
    case neg =>
      have HV := Lib.hid (ov_no (xs := xs) (ns := ns) (fun i => by
    intro h
    have h' := h
    obtain ⟨e', y', h1, h2, h3⟩ := h
    have := (List.getElem?_eq_some_iff.1 h1).1
    have := (List.getElem?_eq_some_iff.1 h2).1
    have := HL.out
    have := HM.out
    exact HB.out i (by omega) h'))
      by_cases hl2 : k < m
      case pos =>
        have k3 : decide ((k : Int) < m) = true := decide_eq_true (by omega)
        have k4 : decide (k < m) = true := decide_eq_true hl2
        have k5 : decide (k < n) = false := decide_eq_false hlt
        go_wp2
        go_ret
        exact ⟨ret_bool HV.out.symm, eW.trans he⟩
      have k3 : decide ((k : Int) < m) = false := decide_eq_false (by omega)
      have k4 : decide (k < m) = false := decide_eq_false hl2
      go_wp2
      go_ret
      exact ⟨ret_bool HV.out.symm, eW.trans he⟩

end Go.Proofs.Ytefkjkbipkcncaa
