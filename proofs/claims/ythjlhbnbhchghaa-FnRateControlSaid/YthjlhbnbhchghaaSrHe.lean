/-
  New prices; the rate for a price.
-/
import Derived.Test.YthjlhbnbhchghaaSrFg
import Derived.Test.YthjlhbnbhchghaaSrFz
namespace Go.Proofs.Ythjlhbnbhchghaa
set_option linter.unusedVariables false
set_option linter.unusedSimpArgs false
set_option maxRecDepth 100000
set_option maxHeartbeats 4000000
attribute [local irreducible] Fn
def rfp (n : Int) : Int := if n < 0 then 0 else max 1 (8 / (1 + n / 4))
theorem iRfp_fn (n : Int) (h1 : n ≤ 1000000000000) : Fn Try.prog 17 true (.cons (.I n) .nil) [] (.I (rfp n)) [] := by
  by_cases hn : n < 0
  · (refine Fn_of tysOk Try.func17 rfl rfl (by simp [AV.len, Try.f17]) ⟨?_⟩; conv => whnf)
    (repeat' first | (refine splitD (fun hs => Nx.mk ?_) (fun hs => Nx.mk ?_) <;> ((try simp only [Ct.len] at hs); revert hs; intro _; conv => whnf)) | (refine splitB (fun _ => Nx.mk ?_) (fun _ => Nx.mk ?_) <;> conv => whnf) | (refine idxNat (by (first | exact trivial | assumption | omega | (simp only [inK, lenR] at *; omega) | (simp; done) | fail)) (Nx.mk ?_); conv => whnf) | (refine idxPred (by omega) (by (first | exact trivial | assumption | omega | (simp only [inK, lenR] at *; omega) | (simp; done) | fail)) (Nx.mk ?_); conv => whnf) | (refine idxSucc (by (first | exact trivial | assumption | omega | (simp only [inK, lenR] at *; omega) | (simp; done) | fail)) (Nx.mk ?_); conv => whnf) | (refine idxTo (by omega) (by (first | exact trivial | assumption | omega | (simp only [inK, lenR] at *; omega) | (simp; done) | fail)) (Nx.mk ?_); conv => whnf) | (refine mkNat (by omega) (by omega) (Nx.mk ?_); conv => whnf) | (refine ar64 (by omega) (Nx.mk ?_); conv => whnf) | (refine ar_in (by (first | exact trivial | assumption | omega | (simp only [inK, lenR] at *; omega) | (simp; done) | fail)) (Nx.mk ?_); conv => whnf) | (refine nilQ (fun _ => Nx.mk ?_) (Nx.mk ?_) <;> conv => whnf) | (refine condN Try.underlying4 (Nx.mk ?_); conv => whnf) | (refine condN (by (first | exact trivial | assumption | omega | (simp only [inK, lenR] at *; omega) | (simp; done) | fail)) (Nx.mk ?_); conv => whnf) | (refine Nx.mk ?_; conv => whnf))
    (all_goals try first | contradiction | (exfalso; omega))
    all_goals ((refine ⟨[], rfl, ⟨rfl, rfl, trivial, trivial⟩, ?_, ⟨?_, trivial⟩, fun _ => ⟨?_, trivial⟩⟩ <;> ((repeat' ((try conv => whnf); (first | exact trivial | exact Eq.refl _ | exact Or.inl (Eq.refl _) | refine And.intro ?_ ?_ | exact fun _ _ _ _ => Eq.refl _ | refine cellJ (fun _ _ => ?_) | (refine cellB ?_; (conv => whnf); refine And.intro ?_ ?_) | exact Nat.le_of_ble_eq_true (Eq.refl true) | exact ⟨_, _, Eq.refl _, Eq.refl _⟩ | fail))) <;> (try conv => whnf))); exact (if_pos hn).symm)
  · have e1 : n.tdiv 4 = n / 4 := Int.tdiv_eq_ediv_of_nonneg (by omega)
    have b1 : 0 ≤ n.tdiv 4 ∧ n.tdiv 4 ≤ 1000000000000 := by omega
    have e2 : rfp n = max 1 (8 / (1 + n.tdiv 4)) := by unfold rfp; rw [if_neg hn, e1]
    have q1 : (4 : Int) ≠ 0 ∧ inK .i64 (n.tdiv 4) := ⟨by omega, by simp only [inK]; omega⟩
    have e3 : (8 : Int).tdiv (1 + n.tdiv 4) = 8 / (1 + n.tdiv 4) := Int.tdiv_eq_ediv_of_nonneg (by omega)
    have b3 : 0 ≤ (8 : Int).tdiv (1 + n.tdiv 4) ∧ (8 : Int).tdiv (1 + n.tdiv 4) ≤ 8 := by
      rw [e3]
      exact ⟨Int.ediv_nonneg (by omega) (by omega), Int.ediv_le_self _ (by omega)⟩
    have q3 : 1 + n.tdiv 4 ≠ 0 ∧ inK .i64 ((8 : Int).tdiv (1 + n.tdiv 4)) := ⟨by omega, by simp only [inK]; omega⟩
    (refine Fn_of tysOk Try.func17 rfl rfl (by simp [AV.len, Try.f17]) ⟨?_⟩; conv => whnf)
    (repeat' first | (refine splitD (fun hs => Nx.mk ?_) (fun hs => Nx.mk ?_) <;> ((try simp only [Ct.len] at hs); revert hs; intro _; conv => whnf)) | (refine splitB (fun _ => Nx.mk ?_) (fun _ => Nx.mk ?_) <;> conv => whnf) | (refine idxNat (by (first | exact trivial | assumption | omega | (simp only [inK, lenR] at *; omega) | (simp; done) | fail)) (Nx.mk ?_); conv => whnf) | (refine idxPred (by omega) (by (first | exact trivial | assumption | omega | (simp only [inK, lenR] at *; omega) | (simp; done) | fail)) (Nx.mk ?_); conv => whnf) | (refine idxSucc (by (first | exact trivial | assumption | omega | (simp only [inK, lenR] at *; omega) | (simp; done) | fail)) (Nx.mk ?_); conv => whnf) | (refine idxTo (by omega) (by (first | exact trivial | assumption | omega | (simp only [inK, lenR] at *; omega) | (simp; done) | fail)) (Nx.mk ?_); conv => whnf) | (refine mkNat (by omega) (by omega) (Nx.mk ?_); conv => whnf) | (refine ar64 (by omega) (Nx.mk ?_); conv => whnf) | (refine ar_in (by (first | exact trivial | assumption | omega | (simp only [inK, lenR] at *; omega) | (simp; done) | fail)) (Nx.mk ?_); conv => whnf) | (refine nilQ (fun _ => Nx.mk ?_) (Nx.mk ?_) <;> conv => whnf) | (refine condN Try.underlying4 (Nx.mk ?_); conv => whnf) | (refine condN (by (first | exact trivial | assumption | omega | (simp only [inK, lenR] at *; omega) | (simp; done) | fail)) (Nx.mk ?_); conv => whnf) | (refine Nx.mk ?_; conv => whnf))
    (all_goals try first | contradiction | (exfalso; omega))
    all_goals ((refine ⟨[], rfl, ⟨rfl, rfl, trivial, trivial⟩, ?_, ⟨?_, trivial⟩, fun _ => ⟨?_, trivial⟩⟩ <;> ((repeat' ((try conv => whnf); (first | exact trivial | exact Eq.refl _ | exact Or.inl (Eq.refl _) | refine And.intro ?_ ?_ | exact fun _ _ _ _ => Eq.refl _ | refine cellJ (fun _ _ => ?_) | (refine cellB ?_; (conv => whnf); refine And.intro ?_ ?_) | exact Nat.le_of_ble_eq_true (Eq.refl true) | exact ⟨_, _, Eq.refl _, Eq.refl _⟩ | fail))) <;> (try conv => whnf))); rw [e2, e3])
/-- The loads of a round; the prices after some rounds. -/
def ldL (code : List Int) (n r : Nat) : List Int := (List.range n).map fun i : Nat => atC code (r * 20 + i) % 7
noncomputable def prs (code : List Int) (g : Gr) : Nat → List Int
  | 0 => List.replicate g.2.1.length 0
  | r + 1 => updP g (prs code g r, ()) (ldL code g.2.1.length r)
theorem rfp_bd {n : Int} (h : 0 ≤ n) : 1 ≤ rfp n ∧ rfp n ≤ 8 := by
  unfold rfp
  rw [if_neg (by omega)]
  have h1 : 0 < 1 + n / 4 := by omega
  have h2 : 8 / (1 + n / 4) ≤ 8 := Int.ediv_le_self _ (by omega)
  omega
end Go.Proofs.Ythjlhbnbhchghaa
