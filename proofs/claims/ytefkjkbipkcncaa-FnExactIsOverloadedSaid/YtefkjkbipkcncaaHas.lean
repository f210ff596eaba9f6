/-
  slices.Index, slices.Contains at []int; l21Has of the reference.
-/
import Derived.Test.YtefkjkbipkcncaaInts
namespace Go.Proofs.Ytefkjkbipkcncaa
open Go.ChangeShapes Go.WideShapes Go.ChangeAt Go.RowKit
set_option linter.unusedVariables false

/-- x is among xs. -/
def hasB (xs : List Int) (x : Int) : Bool := xs.contains x
theorem hasB_iff {xs : List Int} {x : Int} : hasB xs x = true ↔ x ∈ xs := by simp [hasB]
theorem hasB_at {xs : List Int} {x : Int} {k : Nat} (h : xs[k]? = some x) : hasB xs x = true := hasB_iff.2 (List.mem_of_getElem? h)
theorem hasB_no {xs : List Int} {x : Int} (h : ∀ i y, i < xs.length → xs[i]? = some y → y ≠ x) : hasB xs x = false := by
  cases hb : hasB xs x with
  | false => rfl
  | true =>
    obtain ⟨i, hi, e⟩ := List.getElem_of_mem (hasB_iff.1 hb)
    exact absurd e (h i _ hi (List.getElem?_eq_getElem hi))
/-- Where x is first found, or -1. -/
def idxI (xs : List Int) (x : Int) : Int := if hasB xs x = true then (xs.findIdx (· == x) : Nat) else -1
theorem idxI_at {xs : List Int} {x : Int} {k : Nat} (h : xs[k]? = some x) (hb : ∀ i y, i < k → xs[i]? = some y → y ≠ x) : idxI xs x = k := by
  rw [idxI, if_pos (hasB_at h)]
  have hk : k < xs.length := (List.getElem?_eq_some_iff.1 h).1
  congr 1
  rw [List.findIdx_eq hk]
  refine ⟨by simp [(List.getElem?_eq_some_iff.1 h).2], fun j hj => ?_⟩
  have := hb j _ hj (List.getElem?_eq_getElem (by omega))
  simpa using this
theorem idxI_no {xs : List Int} {x : Int} (h : ∀ i y, i < xs.length → xs[i]? = some y → y ≠ x) : idxI xs x = -1 := by rw [idxI, hasB_no h]; simp
theorem idxI_ge (xs : List Int) (x : Int) : decide (0 ≤ idxI xs x) = hasB xs x := by
  unfold idxI
  cases hasB xs x <;> simp

set_option maxHeartbeats 400000 in
theorem index_int (A : Option Addr) (n c : Nat) (xs : List Int) (x : Int) (hn : n ≤ 4611686018427387904) (w : World) (hr : Rd w 1 A n (ints xs)) :
    Calls Try.prog 98 #[.slice A n c, .int .i64 x] w fun e w' => e = .returned (.int .i64 (idxI xs x)) ∧ w' = w := by
  have HL := Lib.hid hr.len
  go_enter Try.func98, Try.ntmps98
  go_wp2
  go_loop [8] (fun i => ∃ k : Nat, k ≤ n ∧ i = .int .i64 k ∧ Hid (∀ i y, i < k → xs[i]? = some y → y ≠ x)) (fun i => n - (intOf i).toNat)
  case atStart => exact ⟨0, Nat.zero_le _, rfl, fun i y hi => absurd hi (by omega)⟩
  case round =>
    obtain ⟨k, hk, rfl, HB⟩ := hrel
    by_cases hlt : k < n
    case pos =>
      obtain ⟨b, o, y, rfl, _, hy, hc⟩ := hr.int hlt
      by_cases hE : x = y
      case pos =>
        subst hE
        have HI := Lib.hid (idxI_at hy HB.out)
        clear hy
        go_wp2
        go_ret
        exact ⟨ret_int HI.out.symm, rfl⟩
      case neg =>
        have hq : (x == y) = false := by simpa using hE
        have HN := Lib.hid (show ∀ i z, i < k + 1 → xs[i]? = some z → z ≠ x from fun i z hi hz => by
          rcases Nat.lt_or_ge i k with h | h
          · exact HB.out i z h hz
          · obtain rfl : i = k := (by omega)
            rw [hy] at hz
            injection hz with hz
            exact fun e => hE (by rw [← e, hz]))
        have HE := Lib.hid hE
        clear hy hE
        go_wp2
        go_round
        case rel => exact ⟨k + 1, by omega, by go_num, HN⟩
        case measure => simp [intOf]; omega
    case neg =>
      have HI := Lib.hid (idxI_no (xs := xs) (x := x) (fun i y hi hy => HB.out i y (by have := HL.out; omega) hy))
      go_wp2
      go_ret
      exact ⟨ret_int HI.out.symm, rfl⟩
theorem contains_int (A : Option Addr) (n c : Nat) (xs : List Int) (x : Int) (hn : n ≤ 4611686018427387904) (w : World) (hr : Rd w 1 A n (ints xs)) :
    Calls Try.prog 73 #[.slice A n c, .int .i64 x] w fun e w' => e = .returned (.bool (hasB xs x)) ∧ w' = w := by
  have HI := Lib.hid (idxI_ge xs x)
  go_enter Try.func73, Try.ntmps73
  go_wp2_with fail
  refine (index_int _ _ _ _ _ hn _ hr).mono ?_
  rintro e w' ⟨rfl, rfl⟩
  go_wp2_with fail
  go_ret
  exact ⟨ret_bool HI.out, rfl⟩
set_option maxHeartbeats 400000 in
theorem has_spec (A : Option Addr) (n c : Nat) (xs : List Int) (x : Int) (hn : n ≤ 4611686018427387904) (w : World) (hr : Rd w 1 A n (ints xs)) :
    Calls Try.prog 72 #[.slice A n c, .int .i64 x] w fun e w' => e = .returned (.bool (hasB xs x)) ∧ w' = w := by
  have HL := Lib.hid hr.len
  go_enter Try.func72, Try.ntmps72
  go_wp2
  go_loop [5] (fun i => ∃ k : Nat, k ≤ n ∧ i = .int .i64 k ∧ Hid (∀ i y, i < k → xs[i]? = some y → y ≠ x)) (fun i => n - (intOf i).toNat)
  case atStart => exact ⟨0, Nat.zero_le _, rfl, fun i y hi => absurd hi (by omega)⟩
  case round =>
    obtain ⟨k, hk, rfl, HB⟩ := hrel
    by_cases hlt : k < n
    case pos =>
      obtain ⟨b, o, y, rfl, _, hy, hc⟩ := hr.int hlt
      by_cases hE : y = x
      case pos =>
        subst hE
        have HI := Lib.hid (hasB_at hy)
        clear hy
        go_wp2
        go_ret
        exact ⟨ret_bool HI.out.symm, rfl⟩
      case neg =>
        have hq : (y == x) = false := by simpa using hE
        have HN := Lib.hid (show ∀ i z, i < k + 1 → xs[i]? = some z → z ≠ x from fun i z hi hz => by
          rcases Nat.lt_or_ge i k with h | h
          · exact HB.out i z h hz
          · obtain rfl : i = k := (by omega)
            rw [hy] at hz
            injection hz with hz
            exact fun e => hE (by rw [← e, hz]))
        have HE := Lib.hid hE
        clear hy hE
        go_wp2
        go_round
        case rel => exact ⟨k + 1, by omega, by go_num, HN⟩
        case measure => simp [intOf]; omega
    case neg =>
      have HI := Lib.hid (hasB_no (xs := xs) (x := x) (fun i y hi hy => HB.out i y (by have := HL.out; omega) hy))
      go_wp2
      go_ret
      exact ⟨ret_bool HI.out.symm, rfl⟩
end Go.Proofs.Ytefkjkbipkcncaa
