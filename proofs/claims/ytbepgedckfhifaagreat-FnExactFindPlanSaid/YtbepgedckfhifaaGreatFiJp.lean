/-
  Powers modulo the field's size, inverses.
-/
import Derived.Test.YtbepgedckfhifaaGreatFiGk
import Derived.Test.YtbepgedckfhifaaGreatFiGb
import Derived.Test.YtbepgedckfhifaaGreatFiIb
namespace Go.Proofs.YtbepgedckfhifaaGreat
set_option linter.unusedVariables false
set_option linter.unusedSimpArgs false
set_option maxRecDepth 100000
set_option maxHeartbeats 4000000
attribute [local irreducible] Fn
theorem and_oneF {k : Nat} (h : (k : Int) ≤ 1048576) : bitsA .and .i64 (k : Int) 1 = (k : Int) % 2 := by
  have e : (BitVec.ofInt 64 (k : Int) &&& BitVec.ofInt 64 1).toNat = k % 2 := by
    rw [BitVec.toNat_and, BitVec.ofInt_natCast, BitVec.toNat_ofNat]
    have : (BitVec.ofInt 64 1).toNat = 1 := by decide
    rw [this, Nat.and_one_is_mod]
    omega
  show IntKind.wrap .i64 _ = _
  have e' : (BitVec.ofInt (IntKind.bits .i64) (k : Int) &&& BitVec.ofInt (IntKind.bits .i64) 1).toNat = k % 2 := e
  rw [e']
  rcases Nat.mod_two_eq_zero_or_one k with h1 | h1
  · rw [h1]
    have : (k : Int) % 2 = 0 := by omega
    rw [this]; decide
  · rw [h1]
    have : (k : Int) % 2 = 1 := by omega
    rw [this]; decide
theorem shr_oneF (k : Nat) : (k : Int).fdiv (2 ^ min (1 : Int).toNat (IntKind.bits .i64)) = ((k / 2 : Nat) : Int) := by
  have : (2 : Int) ^ min (1 : Int).toNat (IntKind.bits .i64) = 2 := by decide
  rw [this, Int.fdiv_eq_ediv_of_nonneg _ (by omega)]
  omega
theorem tmod_mF {x : Int} (h : 0 ≤ x) : x.tmod 1019 = x % 1019 := Int.tmod_eq_emod_of_nonneg h
theorem sPwF_fn (a n : Int) (h : 0 ≤ a ∧ a ≤ 1018) (hn : 0 ≤ n ∧ n ≤ 1048576) : Fn Tryz.prog 139 true (.cons (.I a) (.cons (.I n) (.cons (.I 1019) .nil))) [] (.I (pw a n 1019)) [] := by
  (refine Fn_of tysOk Tryz.func139 rfl rfl (by simp [AV.len, Tryz.f139]) ⟨?_⟩; conv => whnf)
  (repeat' first | (refine zK (fun hs => ?_) (fun hs => ?_) <;> ((try simp only [Ct.len] at hs); revert hs; intro _; conv => whnf)) | (refine zI (fun _ => ?_) (fun _ => ?_)<;> conv => whnf)|((first|refine zA ?_|refine zB ?_|refine zC ?_|refine zD ?_|refine zE ?_|refine zF ?_|refine zG ?_|fail); conv => whnf)|(refine zJ (fun _ => ?_) ?_<;> conv => whnf)|((first | refine condN Tryz.underlying4 (Nx.mk ?_) | refine zH ?_ | refine Nx.mk ?_); conv => whnf))
  refine loopI tysOk [] (fun i : Nat × Int × Int => [(0, .I i.2.1), (1, .I i.1), (7, .I i.2.2)]) (fun i => []) (fun i => (i.1 : Int) ≤ 1048576 ∧ (0 ≤ i.2.1 ∧ i.2.1 ≤ 1018) ∧ (0 ≤ i.2.2 ∧ i.2.2 ≤ 1018) ∧ i.2.2 * i.2.1 ^ i.1 % 1019 = pw a n 1019) (fun i => i.1) (n.toNat, a, 1) ⟨by show (n.toNat : Int) ≤ 1048576; omega, h, ⟨by show (0 : Int) ≤ 1; decide, by show (1 : Int) ≤ 1018; decide⟩, by rw [Int.one_mul]; unfold pw; rfl⟩ ?_ ?_
  · ((try conv => whnf); refine ⟨rfl, by rfl, ?_, ?_⟩ <;> ((repeat' ((try conv => whnf); (first|exact zU|refine And.intro ?_ ?_|exact fun _ _ _ _ => Eq.refl _|refine cellJ (fun _ _ => ?_)|(refine cellB ?_; (conv => whnf); refine And.intro ?_ ?_)|exact zV|fail))) <;> (try conv => whnf)))
    all_goals omega
  · rintro ⟨k, b, o⟩ ⟨hk, hb, ho, he⟩
    have hk : (k : Int) ≤ 1048576 := hk
    have hb : 0 ≤ b ∧ b ≤ 1018 := hb
    have ho : 0 ≤ o ∧ o ≤ 1018 := ho
    have he : o * b ^ k % 1019 = pw a n 1019 := he
    have m1 : 0 ≤ o * b := Int.mul_nonneg ho.1 hb.1
    have m2 : o * b ≤ 1018 * 1018 := Int.le_trans (Int.mul_le_mul_of_nonneg_right ho.2 hb.1) (Int.mul_le_mul_of_nonneg_left hb.2 (by omega))
    have m3 : 0 ≤ b * b := Int.mul_nonneg hb.1 hb.1
    have m4 : b * b ≤ 1018 * 1018 := Int.le_trans (Int.mul_le_mul_of_nonneg_right hb.2 hb.1) (Int.mul_le_mul_of_nonneg_left hb.2 (by omega))
    have t1 := tmod_mF m1
    have t2 := tmod_mF m3
    have b1 := Int.emod_nonneg (o * b) (show (1019 : Int) ≠ 0 by omega)
    have b2 := Int.emod_lt_of_pos (o * b) (show (0 : Int) < 1019 by omega)
    have b3 := Int.emod_nonneg (b * b) (show (1019 : Int) ≠ 0 by omega)
    have b4 := Int.emod_lt_of_pos (b * b) (show (0 : Int) < 1019 by omega)
    have a1 := and_oneF hk
    (repeat' first | (refine zK (fun hs => ?_) (fun hs => ?_) <;> ((try simp only [Ct.len] at hs); revert hs; intro _; conv => whnf)) | (refine zI (fun _ => ?_) (fun _ => ?_)<;> conv => whnf)|((first|refine zA ?_|refine zB ?_|refine zC ?_|refine zD ?_|refine zE ?_|refine zF ?_|refine zG ?_|fail); conv => whnf)|(refine zJ (fun _ => ?_) ?_<;> conv => whnf)|((first | refine condN Tryz.underlying4 (Nx.mk ?_) | refine zH ?_ | refine Nx.mk ?_); conv => whnf))
    · rename_i h0 h1
      have h1 : bitsA .and .i64 (k : Int) 1 = 1 := h1
      rw [a1] at h1
      have h0 : 0 < (k : Int) := h0
      refine ⟨(k / 2, b * b % 1019, o * b % 1019), ⟨by show ((k / 2 : Nat) : Int) ≤ 1048576; omega, ⟨b3, by show b * b % 1019 ≤ 1018; omega⟩, ⟨b1, by show o * b % 1019 ≤ 1018; omega⟩, (pw_odd (by omega)).trans he⟩, by show k / 2 < k; omega, ?_⟩
      ((try conv => whnf); refine ⟨rfl, by rfl, ?_, ?_⟩ <;> ((repeat' ((try conv => whnf); (first|exact zU|refine And.intro ?_ ?_|exact fun _ _ _ _ => Eq.refl _|refine cellJ (fun _ _ => ?_)|(refine cellB ?_; (conv => whnf); refine And.intro ?_ ?_)|exact zV|fail))) <;> (try conv => whnf)))
      all_goals first | exact t1 | exact t2 | exact shr_oneF k
    · rename_i h0 h1
      have h1 : ¬ bitsA .and .i64 (k : Int) 1 = 1 := h1
      rw [a1] at h1
      have h0 : 0 < (k : Int) := h0
      refine ⟨(k / 2, b * b % 1019, o), ⟨by show ((k / 2 : Nat) : Int) ≤ 1048576; omega, ⟨b3, by show b * b % 1019 ≤ 1018; omega⟩, ho, (pw_even (by omega)).trans he⟩, by show k / 2 < k; omega, ?_⟩
      ((try conv => whnf); refine ⟨rfl, by rfl, ?_, ?_⟩ <;> ((repeat' ((try conv => whnf); (first|exact zU|refine And.intro ?_ ?_|exact fun _ _ _ _ => Eq.refl _|refine cellJ (fun _ _ => ?_)|(refine cellB ?_; (conv => whnf); refine And.intro ?_ ?_)|exact zV|fail))) <;> (try conv => whnf)))
      all_goals first | exact t1 | exact t2 | exact shr_oneF k
    · rename_i h0
      have h0 : ¬ 0 < (k : Int) := h0
      obtain rfl : k = 0 := by omega
      (refine ⟨[], rfl, ⟨rfl, rfl, trivial, trivial⟩, ?_, ⟨?_, trivial⟩, fun _ => ⟨?_, trivial⟩⟩ <;> ((repeat' ((try conv => whnf); (first|exact zU|refine And.intro ?_ ?_|exact fun _ _ _ _ => Eq.refl _|refine cellJ (fun _ _ => ?_)|(refine cellB ?_; (conv => whnf); refine And.intro ?_ ?_)|exact zV|fail))) <;> (try conv => whnf)))
      rw [Int.pow_zero, Int.mul_one, Int.emod_eq_of_lt ho.1 (by omega)] at he
      exact he
theorem iPwF_fn (a n : Int) (h : 0 ≤ a ∧ a ≤ 1018) (hn : 0 ≤ n ∧ n ≤ 1048576) : Fn Tryz.prog 143 true (.cons (.I a) (.cons (.I n) (.cons (.I 1019) .nil))) [] (.I (pw a n 1019)) [] := by
  (refine Fn_of tysOk Tryz.func143 rfl rfl (by simp [AV.len, Tryz.f143]) ⟨?_⟩; conv => whnf)
  (repeat' first | (refine zK (fun hs => ?_) (fun hs => ?_) <;> ((try simp only [Ct.len] at hs); revert hs; intro _; conv => whnf)) | (refine zI (fun _ => ?_) (fun _ => ?_)<;> conv => whnf)|((first|refine zA ?_|refine zB ?_|refine zC ?_|refine zD ?_|refine zE ?_|refine zF ?_|refine zG ?_|fail); conv => whnf)|(refine zJ (fun _ => ?_) ?_<;> conv => whnf)|((first | refine condN Tryz.underlying4 (Nx.mk ?_) | refine zH ?_ | refine Nx.mk ?_); conv => whnf))
  refine loopI tysOk [] (fun i : Nat × Int × Int => [(0, .I i.2.1), (1, .I i.1), (7, .I i.2.2)]) (fun i => []) (fun i => (i.1 : Int) ≤ 1048576 ∧ (0 ≤ i.2.1 ∧ i.2.1 ≤ 1018) ∧ (0 ≤ i.2.2 ∧ i.2.2 ≤ 1018) ∧ i.2.2 * i.2.1 ^ i.1 % 1019 = pw a n 1019) (fun i => i.1) (n.toNat, a, 1) ⟨by show (n.toNat : Int) ≤ 1048576; omega, h, ⟨by show (0 : Int) ≤ 1; decide, by show (1 : Int) ≤ 1018; decide⟩, by rw [Int.one_mul]; unfold pw; rfl⟩ ?_ ?_
  · ((try conv => whnf); refine ⟨rfl, by rfl, ?_, ?_⟩ <;> ((repeat' ((try conv => whnf); (first|exact zU|refine And.intro ?_ ?_|exact fun _ _ _ _ => Eq.refl _|refine cellJ (fun _ _ => ?_)|(refine cellB ?_; (conv => whnf); refine And.intro ?_ ?_)|exact zV|fail))) <;> (try conv => whnf)))
    all_goals omega
  · rintro ⟨k, b, o⟩ ⟨hk, hb, ho, he⟩
    have hk : (k : Int) ≤ 1048576 := hk
    have hb : 0 ≤ b ∧ b ≤ 1018 := hb
    have ho : 0 ≤ o ∧ o ≤ 1018 := ho
    have he : o * b ^ k % 1019 = pw a n 1019 := he
    have m1 : 0 ≤ o * b := Int.mul_nonneg ho.1 hb.1
    have m2 : o * b ≤ 1018 * 1018 := Int.le_trans (Int.mul_le_mul_of_nonneg_right ho.2 hb.1) (Int.mul_le_mul_of_nonneg_left hb.2 (by omega))
    have m3 : 0 ≤ b * b := Int.mul_nonneg hb.1 hb.1
    have m4 : b * b ≤ 1018 * 1018 := Int.le_trans (Int.mul_le_mul_of_nonneg_right hb.2 hb.1) (Int.mul_le_mul_of_nonneg_left hb.2 (by omega))
    have t1 := tmod_mF m1
    have t2 := tmod_mF m3
    have b1 := Int.emod_nonneg (o * b) (show (1019 : Int) ≠ 0 by omega)
    have b2 := Int.emod_lt_of_pos (o * b) (show (0 : Int) < 1019 by omega)
    have b3 := Int.emod_nonneg (b * b) (show (1019 : Int) ≠ 0 by omega)
    have b4 := Int.emod_lt_of_pos (b * b) (show (0 : Int) < 1019 by omega)
    have a1 := and_oneF hk
    (repeat' first | (refine zK (fun hs => ?_) (fun hs => ?_) <;> ((try simp only [Ct.len] at hs); revert hs; intro _; conv => whnf)) | (refine zI (fun _ => ?_) (fun _ => ?_)<;> conv => whnf)|((first|refine zA ?_|refine zB ?_|refine zC ?_|refine zD ?_|refine zE ?_|refine zF ?_|refine zG ?_|fail); conv => whnf)|(refine zJ (fun _ => ?_) ?_<;> conv => whnf)|((first | refine condN Tryz.underlying4 (Nx.mk ?_) | refine zH ?_ | refine Nx.mk ?_); conv => whnf))
    · rename_i h0 h1
      have h1 : bitsA .and .i64 (k : Int) 1 = 1 := h1
      rw [a1] at h1
      have h0 : 0 < (k : Int) := h0
      refine ⟨(k / 2, b * b % 1019, o * b % 1019), ⟨by show ((k / 2 : Nat) : Int) ≤ 1048576; omega, ⟨b3, by show b * b % 1019 ≤ 1018; omega⟩, ⟨b1, by show o * b % 1019 ≤ 1018; omega⟩, (pw_odd (by omega)).trans he⟩, by show k / 2 < k; omega, ?_⟩
      ((try conv => whnf); refine ⟨rfl, by rfl, ?_, ?_⟩ <;> ((repeat' ((try conv => whnf); (first|exact zU|refine And.intro ?_ ?_|exact fun _ _ _ _ => Eq.refl _|refine cellJ (fun _ _ => ?_)|(refine cellB ?_; (conv => whnf); refine And.intro ?_ ?_)|exact zV|fail))) <;> (try conv => whnf)))
      all_goals first | exact t1 | exact t2 | exact shr_oneF k
    · rename_i h0 h1
      have h1 : ¬ bitsA .and .i64 (k : Int) 1 = 1 := h1
      rw [a1] at h1
      have h0 : 0 < (k : Int) := h0
      refine ⟨(k / 2, b * b % 1019, o), ⟨by show ((k / 2 : Nat) : Int) ≤ 1048576; omega, ⟨b3, by show b * b % 1019 ≤ 1018; omega⟩, ho, (pw_even (by omega)).trans he⟩, by show k / 2 < k; omega, ?_⟩
      ((try conv => whnf); refine ⟨rfl, by rfl, ?_, ?_⟩ <;> ((repeat' ((try conv => whnf); (first|exact zU|refine And.intro ?_ ?_|exact fun _ _ _ _ => Eq.refl _|refine cellJ (fun _ _ => ?_)|(refine cellB ?_; (conv => whnf); refine And.intro ?_ ?_)|exact zV|fail))) <;> (try conv => whnf)))
      all_goals first | exact t1 | exact t2 | exact shr_oneF k
    · rename_i h0
      have h0 : ¬ 0 < (k : Int) := h0
      obtain rfl : k = 0 := by omega
      (refine ⟨[], rfl, ⟨rfl, rfl, trivial, trivial⟩, ?_, ⟨?_, trivial⟩, fun _ => ⟨?_, trivial⟩⟩ <;> ((repeat' ((try conv => whnf); (first|exact zU|refine And.intro ?_ ?_|exact fun _ _ _ _ => Eq.refl _|refine cellJ (fun _ _ => ?_)|(refine cellB ?_; (conv => whnf); refine And.intro ?_ ?_)|exact zV|fail))) <;> (try conv => whnf)))
      rw [Int.pow_zero, Int.mul_one, Int.emod_eq_of_lt ho.1 (by omega)] at he
      exact he
theorem pw_invI {x : Int} : pw x 1017 1019 = LA.invI x := by unfold pw LA.invI; rfl
theorem invI_bd (x : Int) : 0 ≤ LA.invI x ∧ LA.invI x ≤ 1018 := by
  have := pw_bd (a := x) (n := 1017) (m := 1019) (by omega)
  rw [pw_invI] at this
  omega
attribute [local irreducible] pw LA.invI
theorem sInv_fn (x : Int) (h : 0 ≤ x ∧ x ≤ 1018) (h0 : x ≠ 0) : Fn Tryz.prog 202 true (.cons (.I x) .nil) [] (.I (LA.invI x)) [] := by
  have c1 := (sEl_fn x).tt (decide_eq_true h)
  have c2 := sPwF_fn x 1017 h (by omega)
  rw [pw_invI] at c2
  (refine Fn_of tysOk Tryz.func202 rfl rfl (by simp [AV.len, Tryz.f202]) ⟨?_⟩; conv => whnf)
  (repeat' first | ((with_reducible show ∃ _ : Bool, _); first | (refine ⟨_, [], _, [], _, _, c1, rfl, trivial, zW, Nx.mk ?_⟩; conv => whnf)|(refine ⟨_, [], _, [], _, _, c2, rfl, trivial, zW, Nx.mk ?_⟩; conv => whnf))  | (refine zK (fun hs => ?_) (fun hs => ?_) <;> ((try simp only [Ct.len] at hs); revert hs; intro _; conv => whnf)) | (refine zI (fun _ => ?_) (fun _ => ?_)<;> conv => whnf)|((first|refine zA ?_|refine zB ?_|refine zC ?_|refine zD ?_|refine zE ?_|refine zF ?_|refine zG ?_|fail); conv => whnf)|(refine zJ (fun _ => ?_) ?_<;> conv => whnf)|((first | refine condN Tryz.underlying4 (Nx.mk ?_) | refine zH ?_ | refine Nx.mk ?_); conv => whnf))
  (all_goals try first | contradiction | (exfalso; omega))
  all_goals (refine ⟨[], rfl, ⟨rfl, rfl, trivial, trivial⟩, ?_, ⟨?_, trivial⟩, fun _ => ⟨?_, trivial⟩⟩ <;> ((repeat' ((try conv => whnf); (first|exact zU|refine And.intro ?_ ?_|exact fun _ _ _ _ => Eq.refl _|refine cellJ (fun _ _ => ?_)|(refine cellB ?_; (conv => whnf); refine And.intro ?_ ?_)|exact zV|fail))) <;> (try conv => whnf)))
theorem iPf_fn (x : Int) (h : 0 ≤ x ∧ x ≤ 1018) : Fn Tryz.prog 204 true (.cons (.I x) (.cons (.I 1017) .nil)) [] (.I (LA.invI x)) [] := by
  have c1 := (iEl_fn x).tt (decide_eq_true h)
  have c2 := iPwF_fn x 1017 h (by omega)
  have c3 := (inRange_fn 1017 0 1000000000000).tt (by decide)
  rw [pw_invI] at c2
  (refine Fn_of tysOk Tryz.func204 rfl rfl (by simp [AV.len, Tryz.f204]) ⟨?_⟩; conv => whnf)
  (repeat' first | ((with_reducible show ∃ _ : Bool, _); first | (refine ⟨_, [], _, [], _, _, c1, rfl, trivial, zW, Nx.mk ?_⟩; conv => whnf)|(refine ⟨_, [], _, [], _, _, c2, rfl, trivial, zW, Nx.mk ?_⟩; conv => whnf)|(refine ⟨_, [], _, [], _, _, c3, rfl, trivial, zW, Nx.mk ?_⟩; conv => whnf))  | (refine zK (fun hs => ?_) (fun hs => ?_) <;> ((try simp only [Ct.len] at hs); revert hs; intro _; conv => whnf)) | (refine zI (fun _ => ?_) (fun _ => ?_)<;> conv => whnf)|((first|refine zA ?_|refine zB ?_|refine zC ?_|refine zD ?_|refine zE ?_|refine zF ?_|refine zG ?_|fail); conv => whnf)|(refine zJ (fun _ => ?_) ?_<;> conv => whnf)|((first | refine condN Tryz.underlying4 (Nx.mk ?_) | refine zH ?_ | refine Nx.mk ?_); conv => whnf))
  (all_goals try first | contradiction | (exfalso; omega))
  all_goals (refine ⟨[], rfl, ⟨rfl, rfl, trivial, trivial⟩, ?_, ⟨?_, trivial⟩, fun _ => ⟨?_, trivial⟩⟩ <;> ((repeat' ((try conv => whnf); (first|exact zU|refine And.intro ?_ ?_|exact fun _ _ _ _ => Eq.refl _|refine cellJ (fun _ _ => ?_)|(refine cellB ?_; (conv => whnf); refine And.intro ?_ ?_)|exact zV|fail))) <;> (try conv => whnf)))
theorem iInv_fn (x : Int) (h : 0 ≤ x ∧ x ≤ 1018) : Fn Tryz.prog 194 true (.cons (.I x) .nil) [] (.I (LA.invI x)) [] := by
  have c1 := iPf_fn x h
  (refine Fn_of tysOk Tryz.func194 rfl rfl (by simp [AV.len, Tryz.f194]) ⟨?_⟩; conv => whnf)
  (repeat' first | ((with_reducible show ∃ _ : Bool, _); first | (refine ⟨_, [], _, [], _, _, c1, rfl, trivial, zW, Nx.mk ?_⟩; conv => whnf))  | (refine zK (fun hs => ?_) (fun hs => ?_) <;> ((try simp only [Ct.len] at hs); revert hs; intro _; conv => whnf)) | (refine zI (fun _ => ?_) (fun _ => ?_)<;> conv => whnf)|((first|refine zA ?_|refine zB ?_|refine zC ?_|refine zD ?_|refine zE ?_|refine zF ?_|refine zG ?_|fail); conv => whnf)|(refine zJ (fun _ => ?_) ?_<;> conv => whnf)|((first | refine condN Tryz.underlying4 (Nx.mk ?_) | refine zH ?_ | refine Nx.mk ?_); conv => whnf))
  (all_goals try first | contradiction | (exfalso; omega))
  all_goals (refine ⟨[], rfl, ⟨rfl, rfl, trivial, trivial⟩, ?_, ⟨?_, trivial⟩, fun _ => ⟨?_, trivial⟩⟩ <;> ((repeat' ((try conv => whnf); (first|exact zU|refine And.intro ?_ ?_|exact fun _ _ _ _ => Eq.refl _|refine cellJ (fun _ _ => ?_)|(refine cellB ?_; (conv => whnf); refine And.intro ?_ ?_)|exact zV|fail))) <;> (try conv => whnf)))
end Go.Proofs.YtbepgedckfhifaaGreat
