/-
  Two proofs compared.
-/
import Derived.Test.YtefkjkbipkcncaaLedger
import Derived.Laws.StructEq
namespace Go.Proofs.Ytefkjkbipkcncaa
open Go.ChangeShapes Go.WideShapes Go.ChangeAt Go.RowKit
set_option linter.unusedVariables false

theorem neq_proof (x y : Tri) (w : World) : (binOp .neq 92 (.agg #[.int .i64 x.a, .int .i64 x.b, .int .i64 x.c]) (.agg #[.int .i64 y.a, .int .i64 y.b, .int .i64 y.c])).run Try.prog w = .ok (.bool (!(x.a == y.a && x.b == y.b && x.c == y.c))) w := by
  have ht : Try.prog.underlying 92 = some (.struct (Try.prog.fieldsOf 92)) := by kernel_rfl
  have hp : Try.prog.stoodInHeld 92 = false := by kernel_rfl
  obtain ⟨i, hi, hi1, hi2, hi3⟩ := info_int
  have e1 := fun (a b : Int) (w : World) => run_equalIn_int (P := Try.prog) w 9998 3 .i64 .i64 a b Try.underlying3
  rw [run_neq_struct, run_equalIn_struct w 9999 92 _ _ ht hp]
  simp only [Program.fieldsOf, Try.underlying92]
  simp [Op.eqFields, part, sizeOf, typeInfo, hi, hi2, isAgg, run_underlying Try.underlying3, e1]
  by_cases h1 : x.a = y.a <;> by_cases h2 : x.b = y.b <;> by_cases h3 : x.c = y.c <;> simp [h1, h2, h3]
theorem tri_ne {x y : Tri} (h : ¬ x = y) : (!(x.a == y.a && x.b == y.b && x.c == y.c)) = true := by
  cases hb : (x.a == y.a && x.b == y.b && x.c == y.c) with
  | false => rfl
  | true =>
    simp only [Bool.and_eq_true, beq_iff_eq] at hb
    exact absurd (by cases x; cases y; simp_all) h
/-- Two lists of triples are equal. -/
noncomputable def teqB (xs ys : List Tri) : Bool := @decide (xs = ys) (Classical.propDecidable _)
theorem teq_yes {xs ys : List Tri} (h : xs = ys) : teqB xs ys = true := @decide_eq_true _ (Classical.propDecidable _) h
theorem teq_no {xs ys : List Tri} (h : ¬ xs = ys) : teqB xs ys = false := @decide_eq_false _ (Classical.propDecidable _) h
theorem teq_at {xs ys : List Tri} {k : Nat} {x y : Tri} (hx : xs[k]? = some x) (hy : ys[k]? = some y) (h : ¬ x = y) : teqB xs ys = false := teq_no fun e => h (by rw [e, hy] at hx; injection hx with hx; exact hx.symm)
theorem teq_all {xs ys : List Tri} (hl : xs.length = ys.length) (h : ∀ i, i < xs.length → xs[i]? = ys[i]?) : teqB xs ys = true := teq_yes (by
  apply List.ext_getElem?
  intro i
  rcases Nat.lt_or_ge i xs.length with hi | hi
  · exact h i hi
  · rw [List.getElem?_eq_none hi, List.getElem?_eq_none (by omega)])

set_option maxHeartbeats 1600000 in
theorem equal_proofs (A : Option Addr) (n c : Nat) (xs : List Tri) (B : Option Addr) (m d : Nat) (ns : List Tri) (hn : n ≤ 1048576) (hm : m ≤ 1048576) (w : World) (hr : Rd w 3 A n (tris xs)) (hb : Rd w 3 B m (tris ns)) :
    Calls Try.prog 68 #[.slice A n c, .slice B m d] w fun e w' => e = .returned (.bool (teqB xs ns)) ∧ Ext w w' := by
  have HL := Lib.hid hr.trilen
  have HM := Lib.hid hb.trilen
  have HR := Lib.hid hr
  have HN := Lib.hid hb
  clear hr hb
  by_cases hmn : n = m
  case neg =>
    have HV := Lib.hid (teq_no (xs := xs) (ys := ns) (fun e => hmn (by have := HL.out; have := HM.out; rw [e] at *; omega)))
    have hne : ((n : Int) != m) = true := by simp; omega
    have hne2 : (n != m) = true := by simpa using hmn
    have hne3 : ((n : Int) == m) = false := by simp; omega
    have hne4 : (n == m) = false := by simpa using hmn
    go_enter Try.func68, Try.ntmps68
    go_wp2
    go_ret
    exact ⟨ret_bool HV.out.symm, Ext.refl _⟩
  subst hmn
  have hne : ((n : Int) != n) = false := by simp
  go_enter Try.func68, Try.ntmps68
  go_wp2
  go_loopw [13] (fun i wr => ∃ k : Nat, k ≤ n ∧ i = .int .i64 k ∧ Hid (∀ i, i < k → xs[i]? = ns[i]?) ∧ Ext w wr) (fun i _ => n - (intOf i).toNat)
  case atStart => exact ⟨0, Nat.zero_le _, rfl, fun i hi => absurd hi (by omega), Ext.refl _⟩
  case round =>
    obtain ⟨k, hk, rfl, HB, he⟩ := hrel
    by_cases hlt : k < n
    case pos =>
      obtain ⟨b1, o1, x, rfl, hb1, hx, hc0, hc1, hc2⟩ := (HR.out.ext he).tri hlt
      obtain ⟨b2, o2, y, rfl, hb2, hy, hd0, hd1, hd2⟩ := (HN.out.ext he).tri hlt
      have k0 : (0 : Int) ≤ k := by omega
      have k1 : (k : Int) < n := by omega
      by_cases hE : x = y
      case pos =>
        subst hE
        have HX := Lib.hid (show ∀ i, i < k + 1 → xs[i]? = ns[i]? from fun i hi => by
      rcases Nat.lt_or_ge i k with h | h
      · exact HB.out i h
      · obtain rfl : i = k := (by omega)
        rw [hx, hy])
        have hq := fun W' => neq_proof x x W'
        simp only [beq_self_eq_true, Bool.and_true, Bool.not_true] at hq
        clear hx hy
        go_wp2
        go_quiet (fail)
        go_wp2
        go_roundw
        case rel => exact ⟨k + 1, by omega, by go_num, HX, by (repeat (first | with_reducible exact Ext.refl _ | with_reducible assumption | with_reducible refine Ext.alloc ?_ _ | with_reducible refine Ext.drew ?_ | with_reducible refine Ext.drewN ?_ _ | (with_reducible refine Ext.setCell' ?_ ?_ _; (first | (with_reducible exact Nat.le_refl _) | omega | (dsimp only; omega) | (simp only [World.size_alloc]; omega))) | (with_reducible apply Ext.trans'; with_reducible assumption) | exact (Ext.refl _).drew | (refine Ext.drew ?_; assumption)))⟩
        case measure => simp [intOf]; omega
      case neg =>
        have HV := Lib.hid (teq_at hx hy hE)
        have hq := fun W' => neq_proof x y W'
        simp only [tri_ne hE] at hq
        have HE := Lib.hid hE
        clear hx hy hE
        go_wp2
        go_quiet (fail)
        go_wp2
        go_ret
        exact ⟨ret_bool HV.out.symm, by (repeat (first | with_reducible exact Ext.refl _ | with_reducible assumption | with_reducible refine Ext.alloc ?_ _ | with_reducible refine Ext.drew ?_ | with_reducible refine Ext.drewN ?_ _ | (with_reducible refine Ext.setCell' ?_ ?_ _; (first | (with_reducible exact Nat.le_refl _) | omega | (dsimp only; omega) | (simp only [World.size_alloc]; omega))) | (with_reducible apply Ext.trans'; with_reducible assumption) | exact (Ext.refl _).drew | (refine Ext.drew ?_; assumption)))⟩
    case neg =>
      have HV := Lib.hid (teq_all (xs := xs) (ys := ns) (by have := HL.out; have := HM.out; omega) (fun i hi => HB.out i (by have := HL.out; omega)))
      go_wp2
      go_ret
      exact ⟨ret_bool HV.out.symm, by (repeat (first | with_reducible exact Ext.refl _ | with_reducible assumption | with_reducible refine Ext.alloc ?_ _ | with_reducible refine Ext.drew ?_ | with_reducible refine Ext.drewN ?_ _ | (with_reducible refine Ext.setCell' ?_ ?_ _; (first | (with_reducible exact Nat.le_refl _) | omega | (dsimp only; omega) | (simp only [World.size_alloc]; omega))) | (with_reducible apply Ext.trans'; with_reducible assumption) | exact (Ext.refl _).drew | (refine Ext.drew ?_; assumption)))⟩

end Go.Proofs.Ytefkjkbipkcncaa
