/-
  What the keyed hash tells apart (plain): its last word; the keys of two epochs.
-/
import Derived.Test.YtmnbpamaiboghaaSgGm
namespace Go.Proofs.Ytmnbpamaiboghaa
set_option maxRecDepth 100000
set_option linter.unusedVariables false
theorem hstep_d {d d' x : Int} (h0 : 0 ≤ d ∧ d < 2147483647) (h1 : 0 ≤ d' ∧ d' < 2147483647) (h : hstep d x = hstep d' x) : d = d' := by
  unfold hstep at h
  have h2 : (2147483647 : Int) ∣ 1000003 * (d - d') := by
    have h3 := Int.emod_emod_of_dvd (d * 1000003 + x % 2147483647 + 13) (Int.dvd_refl 2147483647)
    have h4 := Int.dvd_of_emod_eq_zero (Int.emod_eq_emod_iff_emod_sub_eq_zero.1 h)
    have e : d * 1000003 + x % 2147483647 + 13 - (d' * 1000003 + x % 2147483647 + 13) = 1000003 * (d - d') := by omega
    rw [e] at h4
    exact h4
  obtain ⟨k, hk⟩ := h2
  have ht : -2147483647 < d - d' ∧ d - d' < 2147483647 := by clear h hk; omega
  clear h
  have key : d - d' = 0 := by
    generalize d - d' = t at hk ht
    have e1 : (2147483647 : Int) * (1523789695 * k) = 1523789695 * 1000003 * t := by rw [← Int.mul_assoc, Int.mul_comm 2147483647 1523789695, Int.mul_assoc, ← hk, ← Int.mul_assoc]
    have e2 : (1523789695 : Int) * 1000003 = 2147483647 * 709572 + 1 := by decide
    have h5 : t = 2147483647 * (1523789695 * k - 709572 * t) := by
      rw [Int.mul_sub, e1, e2, Int.add_mul, Int.one_mul, ← Int.mul_assoc]
      generalize (2147483647 : Int) * 709572 * t = z
      omega
    generalize 1523789695 * k - 709572 * t = s at h5
    omega
  clear hk
  omega
theorem hstep_x {d x x' : Int} (h0 : 0 ≤ x ∧ x < 2147483647) (h1 : 0 ≤ x' ∧ x' < 2147483647) (h : hstep d x = hstep d x') : x = x' := by
  unfold hstep at h
  omega
theorem khash_3 (key a b x : Int) : khash key [a, b, x] = hstep (hstep (hstep (hstep (hstep 11 key) a) b) x) key := rfl
theorem khash_2 (key a x : Int) : khash key [a, x] = hstep (hstep (hstep (hstep 11 key) a) x) key := rfl
/-- The last word is told by the hash. -/
theorem khash_last {key a b x x' : Int} (h0 : 0 ≤ x ∧ x < 2147483647) (h1 : 0 ≤ x' ∧ x' < 2147483647) (h : khash key [a, b, x] = khash key [a, b, x']) : x = x' := by
  rw [khash_3, khash_3] at h
  exact hstep_x h0 h1 (hstep_d (hstep_bd _ _) (hstep_bd _ _) h)
/-- A box with another value bears another code. -/
theorem forged_no {key e b : Int} (h : 0 ≤ b ∧ b < 2147483647) : khash key [97, e, (b + 1) % 2147483647] ≠ khash key [97, e, b] := by
  intro hq
  have := khash_last (by omega) h hq
  omega
/-- The keys of two epochs, one behind the other. -/
theorem gk_ne {m e : Int} (h : 0 ≤ e ∧ e ≤ 1000000) : kk 93 m e ≠ kk 93 m (e + 1) := by
  unfold kk
  rw [khash_2, khash_2]
  generalize hstep (hstep 11 m) 93 = d
  have a1 : hstep d (e + 1) = (hstep d e + 1) % 2147483647 := by unfold hstep; omega
  rw [a1]
  have b1 := hstep_bd d e
  generalize hstep d e = a at *
  have k1 : hstep ((a + 1) % 2147483647) m = (hstep a m + 1000003) % 2147483647 := by unfold hstep; omega
  rw [k1]
  have b2 := hstep_bd a m
  generalize hstep a m = k at *
  omega
/-- What was wrapped comes out again. -/
theorem unwrap_box {g k : Int} (hg : 0 ≤ g ∧ g < 2147483647) : ((g + k) % 2147483647 - k) % 2147483647 = g := by omega
end Go.Proofs.Ytmnbpamaiboghaa
namespace Go.Proofs.Ytmnbpamaiboghaa
set_option linter.unusedVariables false
set_option linter.unusedSimpArgs false
set_option maxRecDepth 100000
set_option maxHeartbeats 4000000
attribute [local irreducible] Fn
attribute [local irreducible] khash
abbrev unwOk (key : Int) (w : WrappedKey_T) : Bool := decide (w.2.2.2.1 = khash key [97, w.2.1, w.2.2.1])
def unwV (key : Int) (w : WrappedKey_T) : Int := if w.2.2.2.1 = khash key [97, w.2.1, w.2.2.1] then (w.2.2.1 - khash key [95, w.2.1]) % 2147483647 else 0
theorem iUnw_fn (key : Int) (w : WrappedKey_T) (h : 0 ≤ w.2.2.1 ∧ w.2.2.1 < 2147483647) : Fn Try.prog 72 true (.cons (.I key) (.cons (.agg (WrappedKey_R w)) .nil)) [] (.tup (.cons (.I (unwV key w)) (.cons (.b (unwOk key w)) .nil))) [] := by
  have k3 := khash_bd key [95, w.2.1]
  have c1 := iKh_fn key [97, w.2.1, w.2.2.1] (by simp)
  have c2 := iKh_fn key [95, w.2.1] (by simp)
  (refine Fn_of tysOk Try.func72 rfl rfl (by simp [AV.len, Try.f72]) ⟨?_⟩; conv => whnf)
  (repeat' first | ((with_reducible show ∃ _ : Bool, _); first | (refine ⟨_, [], _, [], _, _, c1, rfl, trivial, ?_, Nx.mk ?_⟩; (focus (((repeat' ((try conv => whnf); (first | exact trivial | exact Eq.refl _ | exact Or.inl (Eq.refl _) | refine And.intro ?_ ?_ | exact fun _ _ _ _ => Eq.refl _ | refine cellJ (fun _ _ => ?_) | (refine cellB ?_; (conv => whnf); refine And.intro ?_ ?_) | exact Nat.le_of_ble_eq_true (Eq.refl true) | exact ⟨_, _, Eq.refl _, Eq.refl _⟩ | fail))) <;> (try conv => whnf)); done)); conv => whnf) | (refine ⟨_, [], _, [], _, _, c2, rfl, trivial, ?_, Nx.mk ?_⟩; (focus (((repeat' ((try conv => whnf); (first | exact trivial | exact Eq.refl _ | exact Or.inl (Eq.refl _) | refine And.intro ?_ ?_ | exact fun _ _ _ _ => Eq.refl _ | refine cellJ (fun _ _ => ?_) | (refine cellB ?_; (conv => whnf); refine And.intro ?_ ?_) | exact Nat.le_of_ble_eq_true (Eq.refl true) | exact ⟨_, _, Eq.refl _, Eq.refl _⟩ | fail))) <;> (try conv => whnf)); done)); conv => whnf) | (refine ⟨_, [], _, [], _, _, iMod_fn _ 2147483647 (by omega) (by omega), rfl, trivial, (by ((repeat' ((try conv => whnf); (first | exact trivial | exact Eq.refl _ | exact Or.inl (Eq.refl _) | refine And.intro ?_ ?_ | exact fun _ _ _ _ => Eq.refl _ | refine cellJ (fun _ _ => ?_) | (refine cellB ?_; (conv => whnf); refine And.intro ?_ ?_) | exact Nat.le_of_ble_eq_true (Eq.refl true) | exact ⟨_, _, Eq.refl _, Eq.refl _⟩ | fail))) <;> (try conv => whnf))), Nx.mk ?_⟩; conv => whnf)) | ((refine VC_draw (sf := []) tysOk (by kernel_rfl) (by kernel_rfl) (Nx.mk ?_); conv => whnf)) | (refine splitD (fun hs => Nx.mk ?_) (fun hs => Nx.mk ?_) <;> ((try simp only [Ct.len] at hs); revert hs; intro _; conv => whnf)) | (refine splitB (fun _ => Nx.mk ?_) (fun _ => Nx.mk ?_) <;> conv => whnf) | (refine idxNat (by (first | exact trivial | assumption | omega | (simp only [inK, lenR] at *; omega) | (simp; done) | fail)) (Nx.mk ?_); conv => whnf) | (refine idxPred (by omega) (by (first | exact trivial | assumption | omega | (simp only [inK, lenR] at *; omega) | (simp; done) | fail)) (Nx.mk ?_); conv => whnf) | (refine idxSucc (by (first | exact trivial | assumption | omega | (simp only [inK, lenR] at *; omega) | (simp; done) | fail)) (Nx.mk ?_); conv => whnf) | (refine idxTo (by omega) (by (first | exact trivial | assumption | omega | (simp only [inK, lenR] at *; omega) | (simp; done) | fail)) (Nx.mk ?_); conv => whnf) | (refine mkNat (by omega) (by omega) (Nx.mk ?_); conv => whnf) | (refine ar64 (by omega) (Nx.mk ?_); conv => whnf) | (refine ar_in (by (first | exact trivial | assumption | omega | (simp only [inK, lenR] at *; omega) | (simp; done) | fail)) (Nx.mk ?_); conv => whnf) | (refine nilQ (fun _ => Nx.mk ?_) (Nx.mk ?_) <;> conv => whnf) | (refine condN Try.underlying4 (Nx.mk ?_); conv => whnf) | (refine condN (by (first | exact trivial | assumption | omega | (simp only [inK, lenR] at *; omega) | (simp; done) | fail)) (Nx.mk ?_); conv => whnf) | (refine Nx.mk ?_; conv => whnf))
  · rename_i hs
    (refine ⟨[], rfl, ⟨rfl, rfl, trivial, trivial⟩, ?_, ⟨?_, trivial⟩, fun _ => ⟨?_, trivial⟩⟩ <;> ((repeat' ((try conv => whnf); (first | exact trivial | exact Eq.refl _ | exact Or.inl (Eq.refl _) | refine And.intro ?_ ?_ | exact fun _ _ _ _ => Eq.refl _ | refine cellJ (fun _ _ => ?_) | (refine cellB ?_; (conv => whnf); refine And.intro ?_ ?_) | exact Nat.le_of_ble_eq_true (Eq.refl true) | exact ⟨_, _, Eq.refl _, Eq.refl _⟩ | fail))) <;> (try conv => whnf)))
    · exact (if_neg hs).symm
    · (first | exact Eq.refl _ | exact decide_eq_true (by assumption) | exact decide_eq_false (by assumption) | exact (decide_eq_true (by omega)).symm | exact (decide_eq_false (by omega)).symm | exact decide_eq_true (by omega) | exact decide_eq_false (by omega))
  · rename_i hs
    (refine ⟨[], rfl, ⟨rfl, rfl, trivial, trivial⟩, ?_, ⟨?_, trivial⟩, fun _ => ⟨?_, trivial⟩⟩ <;> ((repeat' ((try conv => whnf); (first | exact trivial | exact Eq.refl _ | exact Or.inl (Eq.refl _) | refine And.intro ?_ ?_ | exact fun _ _ _ _ => Eq.refl _ | refine cellJ (fun _ _ => ?_) | (refine cellB ?_; (conv => whnf); refine And.intro ?_ ?_) | exact Nat.le_of_ble_eq_true (Eq.refl true) | exact ⟨_, _, Eq.refl _, Eq.refl _⟩ | fail))) <;> (try conv => whnf)))
    · exact (if_pos (by omega)).symm
    · exact (decide_eq_true (by omega)).symm
end Go.Proofs.Ytmnbpamaiboghaa
