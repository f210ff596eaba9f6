/-
  IsValidGroup of the program and of the reference.
-/
import Derived.Test.YtekelmhlpinimaaRange
namespace Go.Proofs.Ytekelmhlpinimaa
open Go.ChangeShapes Go.WideShapes Go.ChangeAt Go.RowKit
set_option linter.unusedVariables false

/-- The member at i is in range and greater than the one before it. -/
def OkAt (xs : List Int) (i : Nat) : Prop := ∃ x, xs[i]? = some x ∧ 0 ≤ x ∧ x ≤ 7 ∧ (0 < i → ∃ y, xs[i - 1]? = some y ∧ y < x)
/-- A group is valid. -/
noncomputable def gvB (m ep : Int) (xs : List Int) : Bool := @decide (∀ i, i < xs.length → OkAt xs i) (Classical.propDecidable _) && (inB m 1 2147483646 && inB ep 0 100000)
theorem gv_bad {m ep : Int} {xs : List Int} {i : Nat} (h : ¬ OkAt xs i) (hi : i < xs.length) : gvB m ep xs = false := by
  have : ¬ ∀ i, i < xs.length → OkAt xs i := fun h' => h (h' i hi)
  simp [gvB, this]
theorem gv_end {m ep : Int} {xs : List Int} (h : ∀ i, i < xs.length → OkAt xs i) : gvB m ep xs = (inB m 1 2147483646 && inB ep 0 100000) := by
  unfold gvB
  rw [@decide_eq_true _ (Classical.propDecidable _) h]
  rfl
theorem key_impl (x : Int) (w : World) :
    Calls Try.prog 65 #[.int .i64 x] w fun e w' => e = .returned (.bool (inB x 1 2147483646)) ∧ w' = w := by
  go_enter Try.func65, Try.ntmps65
  go_wp2_with fail
  refine (in_impl _ _ _ _).mono ?_
  rintro e w' ⟨rfl, rfl⟩
  go_wp2_with fail
  go_ret
  exact ⟨rfl, rfl⟩
theorem key_spec (x : Int) (w : World) :
    Calls Try.prog 62 #[.int .i64 x] w fun e w' => e = .returned (.bool (inB x 1 2147483646)) ∧ w' = w := by
  go_enter Try.func62, Try.ntmps62
  go_wp2_with fail
  refine (in_spec _ _ _ _).mono ?_
  rintro e w' ⟨rfl, rfl⟩
  go_wp2_with fail
  go_ret
  exact ⟨rfl, rfl⟩
set_option maxHeartbeats 1600000 in
theorem group_impl (m ep : Int) (A : Option Addr) (n c : Nat) (xs : List Int) (hn : n ≤ 4611686018427387904) (w : World) (hr : Rd w 1 A n (ints xs)) :
    Calls Try.prog 24 #[.agg #[.int .i64 m, .int .i64 ep, .slice A n c]] w fun e w' => e = .returned (.bool (gvB m ep xs)) ∧ ∃ q, w' = (w.alloc (.cells #[.int .i64 m, .int .i64 ep, .slice A n c] 29)).drewN q := by
  have hlen := hr.len
  have HL := Lib.hid hlen
  clear hlen
  have hr1 := hr.alloc (.cells #[.int .i64 m, .int .i64 ep, .slice A n c] 29)
  have e1 : Ext w (w.alloc (.cells #[.int .i64 m, .int .i64 ep, .slice A n c] 29)) := (Ext.refl w).alloc _
  have hz : w.heap.size < w.heap.size + 1 := by omega
  go_enter Try.func24, Try.ntmps24
  go_wp2
  go_loopw [8] (fun i wr => ∃ j q : Nat, j ≤ n ∧ i = .int .i64 j ∧ Hid (∀ i, i < j → OkAt xs i) ∧ wr = (w.alloc (.cells #[.int .i64 m, .int .i64 ep, .slice A n c] 29)).drewN q) (fun i _ => n - (intOf i).toNat)
  case atStart => exact ⟨0, 0, Nat.zero_le _, rfl, fun i hi => absurd hi (by omega), rfl⟩
  case round =>
    obtain ⟨j, q, hj, rfl, HA, rfl⟩ := hrel
    by_cases hlt : j < n
    case pos =>
      obtain ⟨b, o, x, rfl, hb, hx, hc⟩ := hr1.int hlt
      have k0 : (0 : Int) ≤ j := by omega
      have k1 : (j : Int) < n := by omega
      by_cases g1 : 0 ≤ x
      case neg =>
        have HB := Lib.hid (show ¬ OkAt xs j from fun h => by obtain ⟨y, hy, h1, _⟩ := h; rw [hx] at hy; injection hy with hy; omega)
        clear hx
        have gi : inB x 0 7 = false := inB_f (by omega)
        have hv : gvB m ep xs = false := gv_bad (i := j) HB.out (by have := HL.out; omega)
        have HV := Lib.hid hv
        clear hv
        go_wp2_with (first | (go_at_call 64; refine (in_impl _ _ _ _).mono ?_; rintro e w' ⟨rfl, rfl⟩) | (go_at_call 65; refine (key_impl _ _).mono ?_; rintro e w' ⟨rfl, rfl⟩))
        go_ret
        exact ⟨ret_bool HV.out.symm, (by first | exact ⟨_, rfl⟩ | exact ⟨_, World.drewN_drewN _ _ _⟩)⟩
      by_cases g2 : x ≤ 7
      case neg =>
        have HB := Lib.hid (show ¬ OkAt xs j from fun h => by obtain ⟨y, hy, h1, h2, _⟩ := h; rw [hx] at hy; injection hy with hy; omega)
        clear hx
        have gi : inB x 0 7 = false := inB_f (by omega)
        have hv : gvB m ep xs = false := gv_bad (i := j) HB.out (by have := HL.out; omega)
        have HV := Lib.hid hv
        clear hv
        go_wp2_with (first | (go_at_call 64; refine (in_impl _ _ _ _).mono ?_; rintro e w' ⟨rfl, rfl⟩) | (go_at_call 65; refine (key_impl _ _).mono ?_; rintro e w' ⟨rfl, rfl⟩))
        go_ret
        exact ⟨ret_bool HV.out.symm, (by first | exact ⟨_, rfl⟩ | exact ⟨_, World.drewN_drewN _ _ _⟩)⟩
      by_cases g3 : j = 0
      case pos =>
        have HN := Lib.hid (show ∀ i, i < j + 1 → OkAt xs i from fun i hi => by
        obtain rfl : i = j := (by omega)
        exact ⟨x, hx, g1, g2, fun h => absurd h (by omega)⟩)
        have g0 : decide ((0 : Int) < j) = false := decide_eq_false (by omega)
        have g0n : decide (0 < j) = false := decide_eq_false (by omega)
        have H3 := Lib.hid g3
        clear hx g3
        have gi : inB x 0 7 = true := inB_t g1 g2
        go_wp2_with (first | (go_at_call 64; refine (in_impl _ _ _ _).mono ?_; rintro e w' ⟨rfl, rfl⟩) | (go_at_call 65; refine (key_impl _ _).mono ?_; rintro e w' ⟨rfl, rfl⟩))
        go_roundw
        case rel => exact ⟨j + 1, _, by omega, by go_num, HN, rfl⟩
        case measure => simp [intOf]; omega
      obtain ⟨b', o', y, e', _, hy, hd⟩ := hr1.int (show j - 1 < n by omega)
      injection e' with e'
      injection e' with e1' e2'
      subst e1' e2'
      have g5 : 1 ≤ j := by omega
      have g6 : (0 : Int) ≤ (j : Int) - 1 := by omega
      have g7 : (j : Int) - 1 < n := by omega
      have g8 : decide ((0 : Int) < j) = true := decide_eq_true (by omega)
      have g8n : decide (0 < j) = true := decide_eq_true (by omega)
      by_cases g9 : y < x
      case pos =>
        have HN := Lib.hid (show ∀ i, i < j + 1 → OkAt xs i from fun i hi => by
        rcases Nat.lt_or_ge i j with hi' | hi'
        · exact HA.out i hi'
        · obtain rfl : i = j := by omega
          exact ⟨x, hx, g1, g2, fun _ => ⟨y, hy, g9⟩⟩)
        clear hx hy
        have gi : inB x 0 7 = true := inB_t g1 g2
        have g10 : decide (x ≤ y) = false := decide_eq_false (by omega)
        go_wp2_with (first | (go_at_call 64; refine (in_impl _ _ _ _).mono ?_; rintro e w' ⟨rfl, rfl⟩) | (go_at_call 65; refine (key_impl _ _).mono ?_; rintro e w' ⟨rfl, rfl⟩))
        go_roundw
        case rel => exact ⟨j + 1, _, by omega, by go_num, HN, rfl⟩
        case measure => simp [intOf]; omega
      have HB := Lib.hid (show ¬ OkAt xs j from fun h => by
      obtain ⟨x', hx', _, _, h4⟩ := h
      rw [hx] at hx'
      injection hx' with hx'
      obtain ⟨y', hy', h5⟩ := h4 (by omega)
      rw [hy] at hy'
      injection hy' with hy'
      omega)
      clear hx hy
      have gi : inB x 0 7 = true := inB_t g1 g2
      have g10 : decide (x ≤ y) = true := decide_eq_true (by omega)
      have hv : gvB m ep xs = false := gv_bad (i := j) HB.out (by have := HL.out; omega)
      have HV := Lib.hid hv
      clear hv
      go_wp2_with (first | (go_at_call 64; refine (in_impl _ _ _ _).mono ?_; rintro e w' ⟨rfl, rfl⟩) | (go_at_call 65; refine (key_impl _ _).mono ?_; rintro e w' ⟨rfl, rfl⟩))
      go_ret
      exact ⟨ret_bool HV.out.symm, (by first | exact ⟨_, rfl⟩ | exact ⟨_, World.drewN_drewN _ _ _⟩)⟩
    case neg =>
      obtain rfl : j = n := by omega
      have HG := Lib.hid (gv_end (m := m) (ep := ep) (xs := xs) (fun i hi => HA.out i (by have := HL.out; omega)))
      by_cases g1 : inB m 1 2147483646 = true
      case neg =>
        have g2 : inB m 1 2147483646 = false := by simpa using g1
        clear g1
        go_wp2_with (first | (go_at_call 64; refine (in_impl _ _ _ _).mono ?_; rintro e w' ⟨rfl, rfl⟩) | (go_at_call 65; refine (key_impl _ _).mono ?_; rintro e w' ⟨rfl, rfl⟩))
        go_ret
        exact ⟨ret_bool (by rw [HG.out, g2]; rfl), (by first | exact ⟨_, rfl⟩ | exact ⟨_, World.drewN_drewN _ _ _⟩)⟩
      go_wp2_with (first | (go_at_call 64; refine (in_impl _ _ _ _).mono ?_; rintro e w' ⟨rfl, rfl⟩) | (go_at_call 65; refine (key_impl _ _).mono ?_; rintro e w' ⟨rfl, rfl⟩))
      go_ret
      exact ⟨ret_bool (by rw [HG.out, g1]; rfl), (by first | exact ⟨_, rfl⟩ | exact ⟨_, World.drewN_drewN _ _ _⟩)⟩

set_option maxHeartbeats 1600000 in
theorem group_spec (m ep : Int) (A : Option Addr) (n c : Nat) (xs : List Int) (hn : n ≤ 4611686018427387904) (w : World) (hr : Rd w 1 A n (ints xs)) :
    Calls Try.prog 22 #[.agg #[.int .i64 m, .int .i64 ep, .slice A n c]] w fun e w' => e = .returned (.bool (gvB m ep xs)) ∧ ∃ q, w' = (w.alloc (.cells #[.int .i64 m, .int .i64 ep, .slice A n c] 29)).drewN q := by
  have hlen := hr.len
  have HL := Lib.hid hlen
  clear hlen
  have hr1 := hr.alloc (.cells #[.int .i64 m, .int .i64 ep, .slice A n c] 29)
  have e1 : Ext w (w.alloc (.cells #[.int .i64 m, .int .i64 ep, .slice A n c] 29)) := (Ext.refl w).alloc _
  have hz : w.heap.size < w.heap.size + 1 := by omega
  go_enter Try.func22, Try.ntmps22
  go_wp2
  go_loopw [3] (fun i wr => ∃ j q : Nat, j ≤ n ∧ i = .int .i64 j ∧ Hid (∀ i, i < j → OkAt xs i) ∧ wr = (w.alloc (.cells #[.int .i64 m, .int .i64 ep, .slice A n c] 29)).drewN q) (fun i _ => n - (intOf i).toNat)
  case atStart => exact ⟨0, 0, Nat.zero_le _, rfl, fun i hi => absurd hi (by omega), rfl⟩
  case round =>
    obtain ⟨j, q, hj, rfl, HA, rfl⟩ := hrel
    by_cases hlt : j < n
    case pos =>
      obtain ⟨b, o, x, rfl, hb, hx, hc⟩ := hr1.int hlt
      have k0 : (0 : Int) ≤ j := by omega
      have k1 : (j : Int) < n := by omega
      by_cases g1 : 0 ≤ x
      case neg =>
        have HB := Lib.hid (show ¬ OkAt xs j from fun h => by obtain ⟨y, hy, h1, _⟩ := h; rw [hx] at hy; injection hy with hy; omega)
        clear hx
        have gi : inB x 0 7 = false := inB_f (by omega)
        have hv : gvB m ep xs = false := gv_bad (i := j) HB.out (by have := HL.out; omega)
        have HV := Lib.hid hv
        clear hv
        go_wp2
        go_quiet ((go_at_call 61; first | exact Calls.quiet_of_same (in_spec _ _ _ _) | exact quiet_more (in_spec _ _ _ _)))
        go_wp2
        go_ret
        exact ⟨ret_bool HV.out.symm, (by first | exact ⟨_, rfl⟩ | exact ⟨_, World.drewN_drewN _ _ _⟩)⟩
      by_cases g2 : x ≤ 7
      case neg =>
        have HB := Lib.hid (show ¬ OkAt xs j from fun h => by obtain ⟨y, hy, h1, h2, _⟩ := h; rw [hx] at hy; injection hy with hy; omega)
        clear hx
        have gi : inB x 0 7 = false := inB_f (by omega)
        have hv : gvB m ep xs = false := gv_bad (i := j) HB.out (by have := HL.out; omega)
        have HV := Lib.hid hv
        clear hv
        go_wp2
        go_quiet ((go_at_call 61; first | exact Calls.quiet_of_same (in_spec _ _ _ _) | exact quiet_more (in_spec _ _ _ _)))
        go_wp2
        go_ret
        exact ⟨ret_bool HV.out.symm, (by first | exact ⟨_, rfl⟩ | exact ⟨_, World.drewN_drewN _ _ _⟩)⟩
      by_cases g3 : j = 0
      case pos =>
        have HN := Lib.hid (show ∀ i, i < j + 1 → OkAt xs i from fun i hi => by
        obtain rfl : i = j := (by omega)
        exact ⟨x, hx, g1, g2, fun h => absurd h (by omega)⟩)
        have g0 : decide ((0 : Int) < j) = false := decide_eq_false (by omega)
        have g0n : decide (0 < j) = false := decide_eq_false (by omega)
        have H3 := Lib.hid g3
        clear hx g3
        have gi : inB x 0 7 = true := inB_t g1 g2
        go_wp2
        go_quiet ((go_at_call 61; first | exact Calls.quiet_of_same (in_spec _ _ _ _) | exact quiet_more (in_spec _ _ _ _)))
        go_wp2
        go_roundw
        case rel => exact ⟨j + 1, _, by omega, by go_num, HN, rfl⟩
        case measure => simp [intOf]; omega
      obtain ⟨b', o', y, e', _, hy, hd⟩ := hr1.int (show j - 1 < n by omega)
      injection e' with e'
      injection e' with e1' e2'
      subst e1' e2'
      have g5 : 1 ≤ j := by omega
      have g6 : (0 : Int) ≤ (j : Int) - 1 := by omega
      have g7 : (j : Int) - 1 < n := by omega
      have g8 : decide ((0 : Int) < j) = true := decide_eq_true (by omega)
      have g8n : decide (0 < j) = true := decide_eq_true (by omega)
      by_cases g9 : y < x
      case pos =>
        have HN := Lib.hid (show ∀ i, i < j + 1 → OkAt xs i from fun i hi => by
        rcases Nat.lt_or_ge i j with hi' | hi'
        · exact HA.out i hi'
        · obtain rfl : i = j := by omega
          exact ⟨x, hx, g1, g2, fun _ => ⟨y, hy, g9⟩⟩)
        clear hx hy
        have gi : inB x 0 7 = true := inB_t g1 g2
        have g10 : decide (x ≤ y) = false := decide_eq_false (by omega)
        go_wp2
        go_quiet ((go_at_call 61; first | exact Calls.quiet_of_same (in_spec _ _ _ _) | exact quiet_more (in_spec _ _ _ _)))
        go_wp2
        go_roundw
        case rel => exact ⟨j + 1, _, by omega, by go_num, HN, rfl⟩
        case measure => simp [intOf]; omega
      have HB := Lib.hid (show ¬ OkAt xs j from fun h => by
      obtain ⟨x', hx', _, _, h4⟩ := h
      rw [hx] at hx'
      injection hx' with hx'
      obtain ⟨y', hy', h5⟩ := h4 (by omega)
      rw [hy] at hy'
      injection hy' with hy'
      omega)
      clear hx hy
      have gi : inB x 0 7 = true := inB_t g1 g2
      have g10 : decide (x ≤ y) = true := decide_eq_true (by omega)
      have hv : gvB m ep xs = false := gv_bad (i := j) HB.out (by have := HL.out; omega)
      have HV := Lib.hid hv
      clear hv
      go_wp2
      go_quiet ((go_at_call 61; first | exact Calls.quiet_of_same (in_spec _ _ _ _) | exact quiet_more (in_spec _ _ _ _)))
      go_wp2
      go_ret
      exact ⟨ret_bool HV.out.symm, (by first | exact ⟨_, rfl⟩ | exact ⟨_, World.drewN_drewN _ _ _⟩)⟩
    case neg =>
      obtain rfl : j = n := by omega
      have HG := Lib.hid (gv_end (m := m) (ep := ep) (xs := xs) (fun i hi => HA.out i (by have := HL.out; omega)))
      by_cases g1 : inB m 1 2147483646 = true
      case neg =>
        have g2 : inB m 1 2147483646 = false := by simpa using g1
        clear g1
        go_wp2_with (first | (go_at_call 61; refine (in_spec _ _ _ _).mono ?_; rintro e w' ⟨rfl, rfl⟩) | (go_at_call 62; refine (key_spec _ _).mono ?_; rintro e w' ⟨rfl, rfl⟩))
        go_ret
        exact ⟨ret_bool (by rw [HG.out, g2]; rfl), (by first | exact ⟨_, rfl⟩ | exact ⟨_, World.drewN_drewN _ _ _⟩)⟩
      go_wp2_with (first | (go_at_call 61; refine (in_spec _ _ _ _).mono ?_; rintro e w' ⟨rfl, rfl⟩) | (go_at_call 62; refine (key_spec _ _).mono ?_; rintro e w' ⟨rfl, rfl⟩))
      go_ret
      exact ⟨ret_bool (by rw [HG.out, g1]; rfl), (by first | exact ⟨_, rfl⟩ | exact ⟨_, World.drewN_drewN _ _ _⟩)⟩

end Go.Proofs.Ytekelmhlpinimaa
