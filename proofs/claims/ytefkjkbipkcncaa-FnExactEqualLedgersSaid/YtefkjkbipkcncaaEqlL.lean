/-
  EqualLedgers of the program and of the reference.
-/
import Derived.Test.YtefkjkbipkcncaaEqlP
namespace Go.Proofs.Ytefkjkbipkcncaa
open Go.ChangeShapes Go.WideShapes Go.ChangeAt Go.RowKit
set_option linter.unusedVariables false

set_option maxHeartbeats 1600000 in
theorem eql_impl (A : Option Addr) (n c : Nat) (xs : List Tri) (B : Option Addr) (m d : Nat) (ns : List Tri) (hn : n ≤ 1048576) (hm : m ≤ 1048576) (w : World) (hr : Rd w 3 A n (tris xs)) (hb : Rd w 3 B m (tris ns)) :
    Calls Try.prog 23 #[.agg #[.slice A n c], .agg #[.slice B m d]] w fun e w' => e = .returned (.bool (teqB xs ns)) ∧ Ext w w' := by
  have eW : Ext w ((w.alloc (.cells #[.slice A n c] 29)).alloc (.cells #[.slice B m d] 29)) := ((Ext.refl w).alloc _).alloc _
  have HR := Lib.hid (hr.ext eW)
  have HN := Lib.hid (hb.ext eW)
  go_enter Try.func23, Try.ntmps23
  go_wp2_with fail
  refine (equal_proofs _ _ _ _ _ _ _ _ hn hm _ HR.out HN.out).mono ?_
  rintro e w1 ⟨rfl, b1⟩
  go_wp2_with fail
  go_ret
  exact ⟨rfl, eW.trans b1⟩
set_option maxHeartbeats 1600000 in
theorem eql_spec (A : Option Addr) (n c : Nat) (xs : List Tri) (B : Option Addr) (m d : Nat) (ns : List Tri) (hn : n ≤ 1048576) (hm : m ≤ 1048576) (w : World) (hr : Rd w 3 A n (tris xs)) (hb : Rd w 3 B m (tris ns)) :
    Calls Try.prog 22 #[.agg #[.slice A n c], .agg #[.slice B m d]] w fun e w' => e = .returned (.bool (teqB xs ns)) ∧ Ext w w' := by
  have HL := Lib.hid hr.trilen
  have HM := Lib.hid hb.trilen
  have eW : Ext w ((w.alloc (.cells #[.slice A n c] 29)).alloc (.cells #[.slice B m d] 29)) := ((Ext.refl w).alloc _).alloc _
  have HR := Lib.hid (hr.ext eW)
  have HN := Lib.hid (hb.ext eW)
  obtain ⟨W, hW⟩ : ∃ W, ((w.alloc (.cells #[.slice A n c] 29)).alloc (.cells #[.slice B m d] 29)) = W := ⟨_, rfl⟩
  rw [hW] at eW HR HN
  have HW := Lib.hid hW
  clear hW hr hb
  have hz1 : w.heap.size < W.heap.size := by rw [← HW.out]; simp; omega
  have hz2 : w.heap.size + 1 < W.heap.size := by rw [← HW.out]; simp
  have hg0 : W.cell? ⟨w.heap.size, 0, none⟩ = some (.slice A n c) := by rw [← HW.out]; go_simp
  have hf0 : W.cell? ⟨w.heap.size + 1, 0, none⟩ = some (.slice B m d) := by rw [← HW.out]; go_simp
  by_cases hmn : n = m
  case neg =>
    have HV := Lib.hid (teq_no (xs := xs) (ys := ns) (fun e => hmn (by have := HL.out; have := HM.out; rw [e] at *; omega)))
    have hne : ((n : Int) != m) = true := by simp; omega
    have hne2 : (n != m) = true := by simpa using hmn
    have hne3 : ((n : Int) == m) = false := by simp; omega
    have hne4 : (n == m) = false := by simpa using hmn
    go_enter Try.func22, Try.ntmps22
    go_wp2
    go_ret
    exact ⟨ret_bool HV.out.symm, by rw [HW.out]; exact eW⟩
  subst hmn
  have hne : ((n : Int) != n) = false := by simp
  go_enter Try.func22, Try.ntmps22
  go_wp2
  rw [HW.out]
  go_loopw [5] (fun i wr => ∃ k : Nat, k ≤ n ∧ i = .int .i64 k ∧ Hid (∀ i, i < k → xs[i]? = ns[i]?) ∧ Ext W wr) (fun i _ => n - (intOf i).toNat)
  case atStart => exact ⟨0, Nat.zero_le _, rfl, fun i hi => absurd hi (by omega), Ext.refl _⟩
  case round =>
    obtain ⟨k, hk, rfl, HB, he⟩ := hrel
    have hcb1 := (he.cell _ 0 hz1).trans hg0
    have hcb2 := (he.cell _ 0 hz2).trans hf0
    by_cases hlt : k < n
    case pos =>
      obtain ⟨b1, o1, x, rfl, hb1, hx, hc0, hc1, hc2⟩ := (HR.out.ext he).tri hlt
      obtain ⟨b2, o2, y, rfl, hb2, hy, hd0, hd1, hd2⟩ := (HN.out.ext he).tri hlt
      have k0 : (0 : Int) ≤ k := by omega
      have k1 : (k : Int) < n := by omega
      by_cases hE : x = y
      case pos =>
        subst hE
        have HX := Lib.hid (show ∀ i, i < k + 1 → xs[i]? = ns[i]? from fun i hi => by
      rcases Nat.lt_or_ge i k with h | h
      · exact HB.out i h
      · obtain rfl : i = k := (by omega)
        rw [hx, hy])
        have hq := fun W' => neq_proof x x W'
        simp only [beq_self_eq_true, Bool.and_true, Bool.not_true] at hq
        clear hx hy
        go_wp2
        go_quiet (fail)
        go_wp2
        go_roundw
        case rel => exact ⟨k + 1, by omega, by go_num, HX, by (repeat (first | with_reducible exact Ext.refl _ | with_reducible assumption | with_reducible refine Ext.alloc ?_ _ | with_reducible refine Ext.drew ?_ | with_reducible refine Ext.drewN ?_ _ | (with_reducible refine Ext.setCell' ?_ ?_ _; (first | (with_reducible exact Nat.le_refl _) | omega | (dsimp only; omega) | (simp only [World.size_alloc]; omega))) | (with_reducible apply Ext.trans'; with_reducible assumption) | exact (Ext.refl _).drew | (refine Ext.drew ?_; assumption)))⟩
        case measure => simp [intOf]; omega
      case neg =>
        have HV := Lib.hid (teq_at hx hy hE)
        have hq := fun W' => neq_proof x y W'
        simp only [tri_ne hE] at hq
        have HE := Lib.hid hE
        clear hx hy hE
        go_wp2
        go_quiet (fail)
        go_wp2
        go_ret
        exact ⟨ret_bool HV.out.symm, by (repeat (first | with_reducible exact Ext.refl _ | with_reducible assumption | with_reducible refine Ext.alloc ?_ _ | with_reducible refine Ext.drew ?_ | with_reducible refine Ext.drewN ?_ _ | (with_reducible refine Ext.setCell' ?_ ?_ _; (first | (with_reducible exact Nat.le_refl _) | omega | (dsimp only; omega) | (simp only [World.size_alloc]; omega))) | (with_reducible apply Ext.trans'; with_reducible assumption) | exact (Ext.refl _).drew | (refine Ext.drew ?_; assumption)))⟩
    case neg =>
      have HV := Lib.hid (teq_all (xs := xs) (ys := ns) (by have := HL.out; have := HM.out; omega) (fun i hi => HB.out i (by have := HL.out; omega)))
      go_wp2
      go_ret
      exact ⟨ret_bool HV.out.symm, by (repeat (first | with_reducible exact Ext.refl _ | with_reducible assumption | with_reducible refine Ext.alloc ?_ _ | with_reducible refine Ext.drew ?_ | with_reducible refine Ext.drewN ?_ _ | (with_reducible refine Ext.setCell' ?_ ?_ _; (first | (with_reducible exact Nat.le_refl _) | omega | (dsimp only; omega) | (simp only [World.size_alloc]; omega))) | (with_reducible apply Ext.trans'; with_reducible assumption) | exact (Ext.refl _).drew | (refine Ext.drew ?_; assumption)))⟩

end Go.Proofs.Ytefkjkbipkcncaa
