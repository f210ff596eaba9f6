/-
  Mod and Hash of the program and of the reference.
-/
import Derived.Test.YtbepgedckfhifaaGreatFiVC
namespace Go.Proofs.YtbepgedckfhifaaGreat
open Go.ChangeShapes Go.WideShapes Go.ChangeAt Go.RowKit
set_option linter.unusedVariables false
theorem tmod_lo (p q : Int) (h : 1 ≤ q) : -q < p.tmod q := by
  have := Int.tmod_lt_of_pos (-p) (show 0 < q by omega)
  rw [Int.neg_tmod] at this
  omega
theorem tmod_hi (p q : Int) (h : 1 ≤ q) : p.tmod q < q := Int.tmod_lt_of_pos p (by omega)
theorem mod_eq (p q : Int) (h : 1 ≤ q) : (p.tmod q + q) % q = p % q := by
  rw [Int.tmod_def, show p - q * p.tdiv q + q = p + q * (1 - p.tdiv q) by rw [Int.mul_sub]; omega, Int.add_mul_emod_self_left]
def hstep (d x : Int) : Int := (d * 1000003 + x % 2147483647 + 13) % 2147483647
def hash (xs : List Int) : Int := xs.foldl hstep 11
theorem hash_snoc (xs : List Int) (x : Int) : hash (xs ++ [x]) = hstep (hash xs) x := by simp [hash]
theorem hstep_bd (d x : Int) : 0 ≤ hstep d x ∧ hstep d x < 2147483647 := by unfold hstep; omega
theorem hash_bd (xs : List Int) : 0 ≤ hash xs ∧ hash xs < 2147483647 := by
  rcases List.eq_nil_or_concat xs with rfl | ⟨l, x, rfl⟩
  · decide
  · rw [List.concat_eq_append, hash_snoc]; exact hstep_bd _ _
theorem hash_take (xs : List Int) (k : Nat) (x : Int) (h : xs[k]? = some x) : hash (xs.take (k + 1)) = hstep (hash (xs.take k)) x := by
  rw [List.take_add_one, h]
  exact hash_snoc _ _
set_option maxHeartbeats 400000 in
theorem mod_impl (p q : Int) (h1 : 1 ≤ q) (h2 : q ≤ 1000000000000) (w : World) :
    Calls Tryz.prog 171 #[.int .i64 p, .int .i64 q] w fun e w' => e = .returned (.int .i64 (p % q)) ∧ w = w' := by
  have t1 : -q < p.tmod q := tmod_lo p q h1
  have t2 : p.tmod q < q := tmod_hi p q h1
  rw [← mod_eq p q h1]
  have h3 : (q == 0) = false := by simp; omega
  go_enter Tryz.func171, Tryz.ntmps171
  go_wp2
  go_ret
  exact ⟨rfl, rfl⟩
set_option maxHeartbeats 400000 in
theorem mod_spec (p q : Int) (h1 : 1 ≤ q) (h2 : q ≤ 1000000000000) (w : World) :
    Calls Tryz.prog 161 #[.int .i64 p, .int .i64 q] w fun e w' => e = .returned (.int .i64 (p % q)) ∧ w = w' := by
  have t1 : -q < p.tmod q := tmod_lo p q h1
  have t2 : p.tmod q < q := tmod_hi p q h1
  rw [← mod_eq p q h1]
  have h3 : (q == 0) = false := by simp; omega
  go_enter Tryz.func161, Tryz.ntmps161
  go_wp2
  go_ret
  exact ⟨rfl, rfl⟩
set_option maxHeartbeats 800000 in
theorem hash_impl (w : World) (A : Option Addr) (n c : Nat) (xs : List Int) (hn : n ≤ 4611686018427387904) (hr : Rd w 1 A n (ints xs))  :
    Calls Tryz.prog 132 #[.slice A n c] w fun e w' => e = .returned (.int .i64 (hash xs)) ∧ w = w' := by
  have hlen := hr.len
  have HL := Lib.hid hlen
  clear hlen
  go_enter Tryz.func132, Tryz.ntmps132
  go_wp2
  go_loop [3, 8] (fun d i => ∃ k : Nat, k ≤ n ∧ i = .int .i64 k ∧ d = .int .i64 (hash (xs.take k))) (fun _ i => n - (intOf i).toNat)
  case atStart => exact ⟨0, Nat.zero_le _, rfl, rfl⟩
  case round =>
    obtain ⟨k, hk, rfl, rfl⟩ := hrel
    obtain ⟨hd1, hd2⟩ := hash_bd (xs.take k)
    by_cases hlt : k < n
    case pos =>
      obtain ⟨b, o, x, rfl, hb, hx, hc⟩ := hr.int hlt
      have HS := Lib.hid (hash_take xs k x hx)
      clear hx
      generalize hash (xs.take k) = d at *
      have hm1 : 0 ≤ x % 2147483647 := by omega
      have hm2 : x % 2147483647 < 2147483647 := by omega
      go_wp2_with (go_at_call 171; refine (mod_impl _ _ (by omega) (by omega) _).mono ?_; rintro e w' ⟨rfl, rfl⟩)
      go_round
      case rel => exact ⟨k + 1, by omega, by go_num, by rw [HS.out]; rfl⟩
      case measure => simp [intOf]; omega
    case neg =>
      have hkn : xs.take k = xs := List.take_of_length_le (by have := HL.out; omega)
      have HK := Lib.hid hkn
      clear hkn
      go_wp2
      go_ret
      exact ⟨ret_int (by rw [HK.out]), rfl⟩
set_option maxHeartbeats 800000 in
theorem hash_spec (w : World) (A : Option Addr) (n c : Nat) (xs : List Int) (hn : n ≤ 4611686018427387904) (hr : Rd w 1 A n (ints xs))  :
    Calls Tryz.prog 117 #[.slice A n c] w fun e w' => e = .returned (.int .i64 (hash xs)) ∧ w = w' := by
  have hlen := hr.len
  have HL := Lib.hid hlen
  clear hlen
  go_enter Tryz.func117, Tryz.ntmps117
  go_wp2
  go_loop [3, 4] (fun d i => ∃ k : Nat, k ≤ n ∧ i = .int .i64 k ∧ d = .int .i64 (hash (xs.take k))) (fun _ i => n - (intOf i).toNat)
  case atStart => exact ⟨0, Nat.zero_le _, rfl, rfl⟩
  case round =>
    obtain ⟨k, hk, rfl, rfl⟩ := hrel
    obtain ⟨hd1, hd2⟩ := hash_bd (xs.take k)
    by_cases hlt : k < n
    case pos =>
      obtain ⟨b, o, x, rfl, hb, hx, hc⟩ := hr.int hlt
      have HS := Lib.hid (hash_take xs k x hx)
      clear hx
      generalize hash (xs.take k) = d at *
      have hm1 : 0 ≤ x % 2147483647 := by omega
      have hm2 : x % 2147483647 < 2147483647 := by omega
      go_wp2_with (go_at_call 161; refine (mod_spec _ _ (by omega) (by omega) _).mono ?_; rintro e w' ⟨rfl, rfl⟩)
      go_round
      case rel => exact ⟨k + 1, by omega, by go_num, by rw [HS.out]; rfl⟩
      case measure => simp [intOf]; omega
    case neg =>
      have hkn : xs.take k = xs := List.take_of_length_le (by have := HL.out; omega)
      have HK := Lib.hid hkn
      clear hkn
      go_wp2
      go_ret
      exact ⟨ret_int (by rw [HK.out]), rfl⟩
end Go.Proofs.YtbepgedckfhifaaGreat
