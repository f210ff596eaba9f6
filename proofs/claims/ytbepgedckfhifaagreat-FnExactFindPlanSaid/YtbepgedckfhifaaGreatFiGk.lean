/-
  Powers modulo a number; the elements of the group, in plain words.
-/
import Derived.Test.YtbepgedckfhifaaGreatFiFa
namespace Go.Proofs.YtbepgedckfhifaaGreat
set_option linter.unusedVariables false
set_option linter.unusedSimpArgs false
theorem mul_emodL (a b m : Int) : (a % m) * b % m = a * b % m := by rw [Int.mul_emod, Int.emod_emod_of_dvd _ (Int.dvd_refl m), ← Int.mul_emod]
theorem mul_emodR (a b m : Int) : a * (b % m) % m = a * b % m := by rw [Int.mul_comm, mul_emodL, Int.mul_comm]
theorem pow_emod (a m : Int) : ∀ n : Nat, (a % m) ^ n % m = a ^ n % m := by
  intro n
  induction n with
  | zero => simp
  | succ n ih => rw [Int.pow_succ, Int.pow_succ, mul_emodR, ← mul_emodL, ih, mul_emodL]
theorem sq_pow (a : Int) (k : Nat) : (a * a) ^ k = a ^ (2 * k) := by
  induction k with
  | zero => simp
  | succ k ih =>
    have e : 2 * (k + 1) = (2 * k + 1) + 1 := by omega
    rw [e, Int.pow_succ, Int.pow_succ, Int.pow_succ, ih, Int.mul_assoc]
theorem pw_even {out a m : Int} {n : Nat} (h : n % 2 = 0) : out * (a * a % m) ^ (n / 2) % m = out * a ^ n % m := by
  rw [← mul_emodR out ((a * a % m) ^ (n / 2)), pow_emod, mul_emodR, sq_pow]
  have e : 2 * (n / 2) = n := by omega
  rw [e]
theorem pw_odd {out a m : Int} {n : Nat} (h : n % 2 = 1) : (out * a % m) * (a * a % m) ^ (n / 2) % m = out * a ^ n % m := by
  rw [mul_emodL, ← mul_emodR (out * a) ((a * a % m) ^ (n / 2)), pow_emod, mul_emodR, sq_pow]
  have e : n = 2 * (n / 2) + 1 := by omega
  have e2 : a ^ n = a ^ (2 * (n / 2)) * a := by rw [← Int.pow_succ]; exact congrArg _ e
  rw [e2, Int.mul_assoc, Int.mul_comm a]
theorem mul_pow' (a b : Int) : ∀ n : Nat, (a * b) ^ n = a ^ n * b ^ n := by
  intro n
  induction n with
  | zero => simp
  | succ n ih => rw [Int.pow_succ, Int.pow_succ, Int.pow_succ, ih]; ac_rfl
def pw (a n m : Int) : Int := a ^ n.toNat % m
theorem pw_bd {a n m : Int} (h : 0 < m) : 0 ≤ pw a n m ∧ pw a n m < m := ⟨Int.emod_nonneg _ (by omega), Int.emod_lt_of_pos _ h⟩
structure GEl (x : Int) : Prop where
  lo : 1 ≤ x
  hi : x ≤ 2038
  one : x ^ 1019 % 2039 = 1
theorem GEl.mul {a b : Int} (ha : GEl a) (hb : GEl b) : GEl (a * b % 2039) := by
  have h1 : (a * b % 2039) ^ 1019 % 2039 = 1 := by
    rw [pow_emod, mul_pow', Int.mul_emod, ha.one, hb.one]; rfl
  refine ⟨?_, ?_, h1⟩
  · rcases Int.lt_or_le 0 (a * b % 2039) with h | h
    · omega
    · exfalso
      have h2 := Int.emod_nonneg (a * b) (show (2039 : Int) ≠ 0 by omega)
      have h3 : a * b % 2039 = 0 := by omega
      rw [h3] at h1
      rw [Int.zero_pow (by omega)] at h1
      exact absurd h1 (by decide)
  · have := Int.emod_lt_of_pos (a * b) (show (0 : Int) < 2039 by omega)
    omega
theorem GEl.one' : GEl 1 := ⟨by omega, by omega, by rw [Int.one_pow]; decide⟩
theorem GEl.pow {a : Int} (ha : GEl a) : ∀ n : Nat, GEl (a ^ n % 2039) := by
  intro n
  induction n with
  | zero => rw [Int.pow_zero]; exact GEl.one'
  | succ n ih =>
    have h := GEl.mul ih ha
    rw [mul_emodL] at h
    rw [Int.pow_succ]; exact h
theorem GEl.pw {a n : Int} (ha : GEl a) : GEl (pw a n 2039) := ha.pow n.toNat
end Go.Proofs.YtbepgedckfhifaaGreat
