/-
  Powers and elements of the group: the program's functions.
-/
import Derived.Test.YtbepgedckfhifaaGreatSuGk
import Derived.Test.YtbepgedckfhifaaGreatSuGb
import Derived.Test.YtbepgedckfhifaaGreatSuGm
namespace Go.Proofs.YtbepgedckfhifaaGreat
set_option linter.unusedVariables false
set_option linter.unusedSimpArgs false
set_option maxRecDepth 100000
set_option maxHeartbeats 4000000
attribute [local irreducible] Fn
theorem and_one {k : Nat} (h : (k : Int) ≤ 1048576) : bitsA .and .i64 (k : Int) 1 = (k : Int) % 2 := by
  have e : (BitVec.ofInt 64 (k : Int) &&& BitVec.ofInt 64 1).toNat = k % 2 := by
    rw [BitVec.toNat_and, BitVec.ofInt_natCast, BitVec.toNat_ofNat]
    have : (BitVec.ofInt 64 1).toNat = 1 := by decide
    rw [this, Nat.and_one_is_mod]
    omega
  show IntKind.wrap .i64 _ = _
  have e' : (BitVec.ofInt (IntKind.bits .i64) (k : Int) &&& BitVec.ofInt (IntKind.bits .i64) 1).toNat = k % 2 := e
  rw [e']
  rcases Nat.mod_two_eq_zero_or_one k with h1 | h1
  · rw [h1]
    have : (k : Int) % 2 = 0 := by omega
    rw [this]; decide
  · rw [h1]
    have : (k : Int) % 2 = 1 := by omega
    rw [this]; decide
theorem shr_one (k : Nat) : (k : Int).fdiv (2 ^ min (1 : Int).toNat (IntKind.bits .i64)) = ((k / 2 : Nat) : Int) := by
  have : (2 : Int) ^ min (1 : Int).toNat (IntKind.bits .i64) = 2 := by decide
  rw [this, Int.fdiv_eq_ediv_of_nonneg _ (by omega)]
  omega
theorem tmod_m {x : Int} (h : 0 ≤ x) : x.tmod 2039 = x % 2039 := Int.tmod_eq_emod_of_nonneg h
theorem sPw_fn (a n : Int) (h : 0 ≤ a ∧ a ≤ 2038) (hn : 0 ≤ n ∧ n ≤ 1048576) : Fn Tryz.prog 139 true (.cons (.I a) (.cons (.I n) (.cons (.I 2039) .nil))) [] (.I (pw a n 2039)) [] := by
  (refine Fn_of tysOk Tryz.func139 rfl rfl (by simp [AV.len, Tryz.f139]) ⟨?_⟩; conv => whnf)
  (repeat' first | (refine splitD (fun hs => Nx.mk ?_) (fun hs => Nx.mk ?_) <;> ((try simp only [Ct.len] at hs); revert hs; intro _; conv => whnf)) | (refine splitB (fun _ => Nx.mk ?_) (fun _ => Nx.mk ?_) <;> conv => whnf) | ((first | refine zA ?_ | refine zB ?_ | refine zC ?_ | refine zD ?_ | refine zE ?_ | refine zF ?_ | refine zG ?_ | fail); conv => whnf)|(refine nilQ (fun _ => Nx.mk ?_) (Nx.mk ?_) <;> conv => whnf) | ((first | refine condN Tryz.underlying4 (Nx.mk ?_) | refine zH ?_ | refine Nx.mk ?_); conv => whnf))
  refine loopI tysOk [] (fun i : Nat × Int × Int => [(0, .I i.2.1), (1, .I i.1), (7, .I i.2.2)]) (fun i => []) (fun i => (i.1 : Int) ≤ 1048576 ∧ (0 ≤ i.2.1 ∧ i.2.1 ≤ 2038) ∧ (0 ≤ i.2.2 ∧ i.2.2 ≤ 2038) ∧ i.2.2 * i.2.1 ^ i.1 % 2039 = pw a n 2039) (fun i => i.1) (n.toNat, a, 1) ⟨by show (n.toNat : Int) ≤ 1048576; omega, h, ⟨by show (0 : Int) ≤ 1; decide, by show (1 : Int) ≤ 2038; decide⟩, by rw [Int.one_mul]; unfold pw; rfl⟩ ?_ ?_
  · ((try conv => whnf); refine ⟨rfl, by rfl, ?_, ?_⟩ <;> ((repeat' ((try conv => whnf); (first | exact zV | refine And.intro ?_ ?_ | refine cellJ (fun _ _ => ?_) | (refine cellB ?_; (conv => whnf); refine And.intro ?_ ?_) | fail))) <;> (try conv => whnf)))
    all_goals omega
  · rintro ⟨k, b, o⟩ ⟨hk, hb, ho, he⟩
    have hk : (k : Int) ≤ 1048576 := hk
    have hb : 0 ≤ b ∧ b ≤ 2038 := hb
    have ho : 0 ≤ o ∧ o ≤ 2038 := ho
    have he : o * b ^ k % 2039 = pw a n 2039 := he
    have m1 : 0 ≤ o * b := Int.mul_nonneg ho.1 hb.1
    have m2 : o * b ≤ 2038 * 2038 := Int.le_trans (Int.mul_le_mul_of_nonneg_right ho.2 hb.1) (Int.mul_le_mul_of_nonneg_left hb.2 (by omega))
    have m3 : 0 ≤ b * b := Int.mul_nonneg hb.1 hb.1
    have m4 : b * b ≤ 2038 * 2038 := Int.le_trans (Int.mul_le_mul_of_nonneg_right hb.2 hb.1) (Int.mul_le_mul_of_nonneg_left hb.2 (by omega))
    have t1 := tmod_m m1
    have t2 := tmod_m m3
    have b1 := Int.emod_nonneg (o * b) (show (2039 : Int) ≠ 0 by omega)
    have b2 := Int.emod_lt_of_pos (o * b) (show (0 : Int) < 2039 by omega)
    have b3 := Int.emod_nonneg (b * b) (show (2039 : Int) ≠ 0 by omega)
    have b4 := Int.emod_lt_of_pos (b * b) (show (0 : Int) < 2039 by omega)
    have a1 := and_one hk
    (repeat' first | (refine splitD (fun hs => Nx.mk ?_) (fun hs => Nx.mk ?_) <;> ((try simp only [Ct.len] at hs); revert hs; intro _; conv => whnf)) | (refine splitB (fun _ => Nx.mk ?_) (fun _ => Nx.mk ?_) <;> conv => whnf) | ((first | refine zA ?_ | refine zB ?_ | refine zC ?_ | refine zD ?_ | refine zE ?_ | refine zF ?_ | refine zG ?_ | fail); conv => whnf)|(refine nilQ (fun _ => Nx.mk ?_) (Nx.mk ?_) <;> conv => whnf) | ((first | refine condN Tryz.underlying4 (Nx.mk ?_) | refine zH ?_ | refine Nx.mk ?_); conv => whnf))
    · rename_i h0 h1
      have h1 : bitsA .and .i64 (k : Int) 1 = 1 := h1
      rw [a1] at h1
      have h0 : 0 < (k : Int) := h0
      refine ⟨(k / 2, b * b % 2039, o * b % 2039), ⟨by show ((k / 2 : Nat) : Int) ≤ 1048576; omega, ⟨b3, by show b * b % 2039 ≤ 2038; omega⟩, ⟨b1, by show o * b % 2039 ≤ 2038; omega⟩, (pw_odd (by omega)).trans he⟩, by show k / 2 < k; omega, ?_⟩
      ((try conv => whnf); refine ⟨rfl, by rfl, ?_, ?_⟩ <;> ((repeat' ((try conv => whnf); (first | exact zV | refine And.intro ?_ ?_ | refine cellJ (fun _ _ => ?_) | (refine cellB ?_; (conv => whnf); refine And.intro ?_ ?_) | fail))) <;> (try conv => whnf)))
      all_goals first | exact t1 | exact t2 | exact shr_one k
    · rename_i h0 h1
      have h1 : ¬ bitsA .and .i64 (k : Int) 1 = 1 := h1
      rw [a1] at h1
      have h0 : 0 < (k : Int) := h0
      refine ⟨(k / 2, b * b % 2039, o), ⟨by show ((k / 2 : Nat) : Int) ≤ 1048576; omega, ⟨b3, by show b * b % 2039 ≤ 2038; omega⟩, ho, (pw_even (by omega)).trans he⟩, by show k / 2 < k; omega, ?_⟩
      ((try conv => whnf); refine ⟨rfl, by rfl, ?_, ?_⟩ <;> ((repeat' ((try conv => whnf); (first | exact zV | refine And.intro ?_ ?_ | refine cellJ (fun _ _ => ?_) | (refine cellB ?_; (conv => whnf); refine And.intro ?_ ?_) | fail))) <;> (try conv => whnf)))
      all_goals first | exact t1 | exact t2 | exact shr_one k
    · rename_i h0
      have h0 : ¬ 0 < (k : Int) := h0
      obtain rfl : k = 0 := by omega
      (refine ⟨[], rfl, ⟨rfl, rfl, trivial, trivial⟩, ?_, ⟨?_, trivial⟩, fun _ => ⟨?_, trivial⟩⟩ <;> ((repeat' ((try conv => whnf); (first | exact zV | refine And.intro ?_ ?_ | refine cellJ (fun _ _ => ?_) | (refine cellB ?_; (conv => whnf); refine And.intro ?_ ?_) | fail))) <;> (try conv => whnf)))
      rw [Int.pow_zero, Int.mul_one, Int.emod_eq_of_lt ho.1 (by omega)] at he
      exact he
theorem iPw_fn (a n : Int) (h : 0 ≤ a ∧ a ≤ 2038) (hn : 0 ≤ n ∧ n ≤ 1048576) : Fn Tryz.prog 143 true (.cons (.I a) (.cons (.I n) (.cons (.I 2039) .nil))) [] (.I (pw a n 2039)) [] := by
  (refine Fn_of tysOk Tryz.func143 rfl rfl (by simp [AV.len, Tryz.f143]) ⟨?_⟩; conv => whnf)
  (repeat' first | (refine splitD (fun hs => Nx.mk ?_) (fun hs => Nx.mk ?_) <;> ((try simp only [Ct.len] at hs); revert hs; intro _; conv => whnf)) | (refine splitB (fun _ => Nx.mk ?_) (fun _ => Nx.mk ?_) <;> conv => whnf) | ((first | refine zA ?_ | refine zB ?_ | refine zC ?_ | refine zD ?_ | refine zE ?_ | refine zF ?_ | refine zG ?_ | fail); conv => whnf)|(refine nilQ (fun _ => Nx.mk ?_) (Nx.mk ?_) <;> conv => whnf) | ((first | refine condN Tryz.underlying4 (Nx.mk ?_) | refine zH ?_ | refine Nx.mk ?_); conv => whnf))
  refine loopI tysOk [] (fun i : Nat × Int × Int => [(0, .I i.2.1), (1, .I i.1), (7, .I i.2.2)]) (fun i => []) (fun i => (i.1 : Int) ≤ 1048576 ∧ (0 ≤ i.2.1 ∧ i.2.1 ≤ 2038) ∧ (0 ≤ i.2.2 ∧ i.2.2 ≤ 2038) ∧ i.2.2 * i.2.1 ^ i.1 % 2039 = pw a n 2039) (fun i => i.1) (n.toNat, a, 1) ⟨by show (n.toNat : Int) ≤ 1048576; omega, h, ⟨by show (0 : Int) ≤ 1; decide, by show (1 : Int) ≤ 2038; decide⟩, by rw [Int.one_mul]; unfold pw; rfl⟩ ?_ ?_
  · ((try conv => whnf); refine ⟨rfl, by rfl, ?_, ?_⟩ <;> ((repeat' ((try conv => whnf); (first | exact zV | refine And.intro ?_ ?_ | refine cellJ (fun _ _ => ?_) | (refine cellB ?_; (conv => whnf); refine And.intro ?_ ?_) | fail))) <;> (try conv => whnf)))
    all_goals omega
  · rintro ⟨k, b, o⟩ ⟨hk, hb, ho, he⟩
    have hk : (k : Int) ≤ 1048576 := hk
    have hb : 0 ≤ b ∧ b ≤ 2038 := hb
    have ho : 0 ≤ o ∧ o ≤ 2038 := ho
    have he : o * b ^ k % 2039 = pw a n 2039 := he
    have m1 : 0 ≤ o * b := Int.mul_nonneg ho.1 hb.1
    have m2 : o * b ≤ 2038 * 2038 := Int.le_trans (Int.mul_le_mul_of_nonneg_right ho.2 hb.1) (Int.mul_le_mul_of_nonneg_left hb.2 (by omega))
    have m3 : 0 ≤ b * b := Int.mul_nonneg hb.1 hb.1
    have m4 : b * b ≤ 2038 * 2038 := Int.le_trans (Int.mul_le_mul_of_nonneg_right hb.2 hb.1) (Int.mul_le_mul_of_nonneg_left hb.2 (by omega))
    have t1 := tmod_m m1
    have t2 := tmod_m m3
    have b1 := Int.emod_nonneg (o * b) (show (2039 : Int) ≠ 0 by omega)
    have b2 := Int.emod_lt_of_pos (o * b) (show (0 : Int) < 2039 by omega)
    have b3 := Int.emod_nonneg (b * b) (show (2039 : Int) ≠ 0 by omega)
    have b4 := Int.emod_lt_of_pos (b * b) (show (0 : Int) < 2039 by omega)
    have a1 := and_one hk
    (repeat' first | (refine splitD (fun hs => Nx.mk ?_) (fun hs => Nx.mk ?_) <;> ((try simp only [Ct.len] at hs); revert hs; intro _; conv => whnf)) | (refine splitB (fun _ => Nx.mk ?_) (fun _ => Nx.mk ?_) <;> conv => whnf) | ((first | refine zA ?_ | refine zB ?_ | refine zC ?_ | refine zD ?_ | refine zE ?_ | refine zF ?_ | refine zG ?_ | fail); conv => whnf)|(refine nilQ (fun _ => Nx.mk ?_) (Nx.mk ?_) <;> conv => whnf) | ((first | refine condN Tryz.underlying4 (Nx.mk ?_) | refine zH ?_ | refine Nx.mk ?_); conv => whnf))
    · rename_i h0 h1
      have h1 : bitsA .and .i64 (k : Int) 1 = 1 := h1
      rw [a1] at h1
      have h0 : 0 < (k : Int) := h0
      refine ⟨(k / 2, b * b % 2039, o * b % 2039), ⟨by show ((k / 2 : Nat) : Int) ≤ 1048576; omega, ⟨b3, by show b * b % 2039 ≤ 2038; omega⟩, ⟨b1, by show o * b % 2039 ≤ 2038; omega⟩, (pw_odd (by omega)).trans he⟩, by show k / 2 < k; omega, ?_⟩
      ((try conv => whnf); refine ⟨rfl, by rfl, ?_, ?_⟩ <;> ((repeat' ((try conv => whnf); (first | exact zV | refine And.intro ?_ ?_ | refine cellJ (fun _ _ => ?_) | (refine cellB ?_; (conv => whnf); refine And.intro ?_ ?_) | fail))) <;> (try conv => whnf)))
      all_goals first | exact t1 | exact t2 | exact shr_one k
    · rename_i h0 h1
      have h1 : ¬ bitsA .and .i64 (k : Int) 1 = 1 := h1
      rw [a1] at h1
      have h0 : 0 < (k : Int) := h0
      refine ⟨(k / 2, b * b % 2039, o), ⟨by show ((k / 2 : Nat) : Int) ≤ 1048576; omega, ⟨b3, by show b * b % 2039 ≤ 2038; omega⟩, ho, (pw_even (by omega)).trans he⟩, by show k / 2 < k; omega, ?_⟩
      ((try conv => whnf); refine ⟨rfl, by rfl, ?_, ?_⟩ <;> ((repeat' ((try conv => whnf); (first | exact zV | refine And.intro ?_ ?_ | refine cellJ (fun _ _ => ?_) | (refine cellB ?_; (conv => whnf); refine And.intro ?_ ?_) | fail))) <;> (try conv => whnf)))
      all_goals first | exact t1 | exact t2 | exact shr_one k
    · rename_i h0
      have h0 : ¬ 0 < (k : Int) := h0
      obtain rfl : k = 0 := by omega
      (refine ⟨[], rfl, ⟨rfl, rfl, trivial, trivial⟩, ?_, ⟨?_, trivial⟩, fun _ => ⟨?_, trivial⟩⟩ <;> ((repeat' ((try conv => whnf); (first | exact zV | refine And.intro ?_ ?_ | refine cellJ (fun _ _ => ?_) | (refine cellB ?_; (conv => whnf); refine And.intro ?_ ?_) | fail))) <;> (try conv => whnf)))
      rw [Int.pow_zero, Int.mul_one, Int.emod_eq_of_lt ho.1 (by omega)] at he
      exact he
open Classical in
noncomputable def gelB (x : Int) : Bool := decide (GEl x)
theorem gelB_iff {x : Int} : gelB x = true ↔ GEl x := by simp [gelB]
theorem gelB_pw {x : Int} (h1 : 1 ≤ x) (h2 : x ≤ 2038) : gelB x = decide (pw x 1019 2039 = 1) := by
  have e : pw x 1019 2039 = x ^ 1019 % 2039 := by unfold pw; rfl
  rw [e]
  by_cases h : x ^ 1019 % 2039 = 1
  · rw [decide_eq_true h]; exact gelB_iff.2 ⟨h1, h2, h⟩
  · rw [decide_eq_false h]
    cases hb : gelB x with
    | false => rfl
    | true => exact absurd (gelB_iff.1 hb).one h
theorem gelB_no {x : Int} (h : ¬ (1 ≤ x ∧ x ≤ 2038)) : gelB x = false := by
  cases hb : gelB x with
  | false => rfl
  | true => exact absurd ⟨(gelB_iff.1 hb).lo, (gelB_iff.1 hb).hi⟩ h
attribute [local irreducible] gelB pw
theorem sGe_fn (x : Int) : Fn Tryz.prog 94 true (.cons (.I x) .nil) [] (.b (gelB x)) [] := by
  by_cases h : 1 ≤ x ∧ x ≤ 2038
  · have c1 := sPw_fn x 1019 (by omega) (by omega)
    rw [gelB_pw h.1 h.2]
    (refine Fn_of tysOk Tryz.func94 rfl rfl (by simp [AV.len, Tryz.f94]) ⟨?_⟩; conv => whnf)
    (repeat' first | ((with_reducible show ∃ _ : Bool, _); first | (refine ⟨_, [], _, [], _, _, l1In_fn _ _ _, rfl, trivial, zW, Nx.mk ?_⟩; conv => whnf)|(refine ⟨_, [], _, [], _, _, c1, rfl, trivial, zW, Nx.mk ?_⟩; conv => whnf))  | (refine splitD (fun hs => Nx.mk ?_) (fun hs => Nx.mk ?_) <;> ((try simp only [Ct.len] at hs); revert hs; intro _; conv => whnf)) | (refine splitB (fun _ => Nx.mk ?_) (fun _ => Nx.mk ?_) <;> conv => whnf) | ((first | refine zA ?_ | refine zB ?_ | refine zC ?_ | refine zD ?_ | refine zE ?_ | refine zF ?_ | refine zG ?_ | fail); conv => whnf)|(refine nilQ (fun _ => Nx.mk ?_) (Nx.mk ?_) <;> conv => whnf) | ((first | refine condN Tryz.underlying4 (Nx.mk ?_) | refine zH ?_ | refine Nx.mk ?_); conv => whnf))
    (all_goals try first | contradiction | (exfalso; omega))
    all_goals (refine ⟨[], rfl, ⟨rfl, rfl, trivial, trivial⟩, ?_, ⟨?_, trivial⟩, fun _ => ⟨?_, trivial⟩⟩ <;> ((repeat' ((try conv => whnf); (first | exact zV | refine And.intro ?_ ?_ | refine cellJ (fun _ _ => ?_) | (refine cellB ?_; (conv => whnf); refine And.intro ?_ ?_) | fail))) <;> (try conv => whnf)))
    all_goals try (first | exact Eq.refl _ | exact decide_eq_true (by assumption) | exact decide_eq_false (by assumption) | exact (decide_eq_true (by omega)).symm | exact (decide_eq_false (by omega)).symm | exact decide_eq_true (by omega) | exact decide_eq_false (by omega))
  · rw [gelB_no h]
    (refine Fn_of tysOk Tryz.func94 rfl rfl (by simp [AV.len, Tryz.f94]) ⟨?_⟩; conv => whnf)
    (repeat' first | ((with_reducible show ∃ _ : Bool, _); first | (refine ⟨_, [], _, [], _, _, l1In_fn _ _ _, rfl, trivial, zW, Nx.mk ?_⟩; conv => whnf))  | (refine splitD (fun hs => Nx.mk ?_) (fun hs => Nx.mk ?_) <;> ((try simp only [Ct.len] at hs); revert hs; intro _; conv => whnf)) | (refine splitB (fun _ => Nx.mk ?_) (fun _ => Nx.mk ?_) <;> conv => whnf) | ((first | refine zA ?_ | refine zB ?_ | refine zC ?_ | refine zD ?_ | refine zE ?_ | refine zF ?_ | refine zG ?_ | fail); conv => whnf)|(refine nilQ (fun _ => Nx.mk ?_) (Nx.mk ?_) <;> conv => whnf) | ((first | refine condN Tryz.underlying4 (Nx.mk ?_) | refine zH ?_ | refine Nx.mk ?_); conv => whnf))
    all_goals first
      | ((refine ⟨[], rfl, ⟨rfl, rfl, trivial, trivial⟩, ?_, ⟨?_, trivial⟩, fun _ => ⟨?_, trivial⟩⟩ <;> ((repeat' ((try conv => whnf); (first | exact zV | refine And.intro ?_ ?_ | refine cellJ (fun _ _ => ?_) | (refine cellB ?_; (conv => whnf); refine And.intro ?_ ?_) | fail))) <;> (try conv => whnf))); done)
      | (exfalso; omega)
      | (all_goals try first | contradiction | (exfalso; omega))
theorem iGe_fn (x : Int) : Fn Tryz.prog 102 true (.cons (.I x) .nil) [] (.b (gelB x)) [] := by
  by_cases h : 1 ≤ x ∧ x ≤ 2038
  · have c1 := iPw_fn x 1019 (by omega) (by omega)
    rw [gelB_pw h.1 h.2]
    (refine Fn_of tysOk Tryz.func102 rfl rfl (by simp [AV.len, Tryz.f102]) ⟨?_⟩; conv => whnf)
    (repeat' first | ((with_reducible show ∃ _ : Bool, _); first | (refine ⟨_, [], _, [], _, _, inRange_fn _ _ _, rfl, trivial, zW, Nx.mk ?_⟩; conv => whnf)|(refine ⟨_, [], _, [], _, _, c1, rfl, trivial, zW, Nx.mk ?_⟩; conv => whnf))  | (refine splitD (fun hs => Nx.mk ?_) (fun hs => Nx.mk ?_) <;> ((try simp only [Ct.len] at hs); revert hs; intro _; conv => whnf)) | (refine splitB (fun _ => Nx.mk ?_) (fun _ => Nx.mk ?_) <;> conv => whnf) | ((first | refine zA ?_ | refine zB ?_ | refine zC ?_ | refine zD ?_ | refine zE ?_ | refine zF ?_ | refine zG ?_ | fail); conv => whnf)|(refine nilQ (fun _ => Nx.mk ?_) (Nx.mk ?_) <;> conv => whnf) | ((first | refine condN Tryz.underlying4 (Nx.mk ?_) | refine zH ?_ | refine Nx.mk ?_); conv => whnf))
    (all_goals try first | contradiction | (exfalso; omega))
    all_goals (refine ⟨[], rfl, ⟨rfl, rfl, trivial, trivial⟩, ?_, ⟨?_, trivial⟩, fun _ => ⟨?_, trivial⟩⟩ <;> ((repeat' ((try conv => whnf); (first | exact zV | refine And.intro ?_ ?_ | refine cellJ (fun _ _ => ?_) | (refine cellB ?_; (conv => whnf); refine And.intro ?_ ?_) | fail))) <;> (try conv => whnf)))
    all_goals try (first | exact Eq.refl _ | exact decide_eq_true (by assumption) | exact decide_eq_false (by assumption) | exact (decide_eq_true (by omega)).symm | exact (decide_eq_false (by omega)).symm | exact decide_eq_true (by omega) | exact decide_eq_false (by omega))
  · rw [gelB_no h]
    (refine Fn_of tysOk Tryz.func102 rfl rfl (by simp [AV.len, Tryz.f102]) ⟨?_⟩; conv => whnf)
    (repeat' first | ((with_reducible show ∃ _ : Bool, _); first | (refine ⟨_, [], _, [], _, _, inRange_fn _ _ _, rfl, trivial, zW, Nx.mk ?_⟩; conv => whnf))  | (refine splitD (fun hs => Nx.mk ?_) (fun hs => Nx.mk ?_) <;> ((try simp only [Ct.len] at hs); revert hs; intro _; conv => whnf)) | (refine splitB (fun _ => Nx.mk ?_) (fun _ => Nx.mk ?_) <;> conv => whnf) | ((first | refine zA ?_ | refine zB ?_ | refine zC ?_ | refine zD ?_ | refine zE ?_ | refine zF ?_ | refine zG ?_ | fail); conv => whnf)|(refine nilQ (fun _ => Nx.mk ?_) (Nx.mk ?_) <;> conv => whnf) | ((first | refine condN Tryz.underlying4 (Nx.mk ?_) | refine zH ?_ | refine Nx.mk ?_); conv => whnf))
    all_goals first
      | ((refine ⟨[], rfl, ⟨rfl, rfl, trivial, trivial⟩, ?_, ⟨?_, trivial⟩, fun _ => ⟨?_, trivial⟩⟩ <;> ((repeat' ((try conv => whnf); (first | exact zV | refine And.intro ?_ ?_ | refine cellJ (fun _ _ => ?_) | (refine cellB ?_; (conv => whnf); refine And.intro ?_ ?_) | fail))) <;> (try conv => whnf))); done)
      | (exfalso; omega)
      | (all_goals try first | contradiction | (exfalso; omega))
end Go.Proofs.YtbepgedckfhifaaGreat
