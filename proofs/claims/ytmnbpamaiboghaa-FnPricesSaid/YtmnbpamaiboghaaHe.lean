/-
  New prices; the rate for a price.
-/
import Derived.Test.YtmnbpamaiboghaaFg
import Derived.Test.YtmnbpamaiboghaaFz
namespace Go.Proofs.Ytmnbpamaiboghaa
set_option linter.unusedVariables false
set_option linter.unusedSimpArgs false
set_option maxRecDepth 100000
set_option maxHeartbeats 4000000
attribute [local irreducible] Fn
theorem iNewP_fn (g : Gr) (h : g.2.1.length ≤ 1048576) : Fn Try.prog 35 true (.cons (GrA g) .nil) [] (.agg (.cons (.os (rt 16)) .nil)) [(16, .row 3 (.ints .i64 (List.replicate g.2.1.length 0)))] := by
  (refine Fn_of tysOk Try.func35 rfl rfl (by simp [AV.len, Try.f35]) ⟨?_⟩; conv => whnf)
  (repeat' first | (refine splitD (fun hs => Nx.mk ?_) (fun hs => Nx.mk ?_) <;> ((try simp only [Ct.len] at hs); revert hs; intro _; conv => whnf)) | (refine splitB (fun _ => Nx.mk ?_) (fun _ => Nx.mk ?_) <;> conv => whnf) | (refine idxNat (by (first | exact trivial | assumption | omega | (simp only [inK, lenR] at *; omega) | (simp; done) | fail)) (Nx.mk ?_); conv => whnf) | (refine idxPred (by omega) (by (first | exact trivial | assumption | omega | (simp only [inK, lenR] at *; omega) | (simp; done) | fail)) (Nx.mk ?_); conv => whnf) | (refine idxSucc (by (first | exact trivial | assumption | omega | (simp only [inK, lenR] at *; omega) | (simp; done) | fail)) (Nx.mk ?_); conv => whnf) | (refine idxTo (by omega) (by (first | exact trivial | assumption | omega | (simp only [inK, lenR] at *; omega) | (simp; done) | fail)) (Nx.mk ?_); conv => whnf) | (refine mkNat (by omega) (by omega) (Nx.mk ?_); conv => whnf) | (refine ar64 (by omega) (Nx.mk ?_); conv => whnf) | (refine ar_in (by (first | exact trivial | assumption | omega | (simp only [inK, lenR] at *; omega) | (simp; done) | fail)) (Nx.mk ?_); conv => whnf) | (refine nilQ (fun _ => Nx.mk ?_) (Nx.mk ?_) <;> conv => whnf) | (refine condN Try.underlying4 (Nx.mk ?_); conv => whnf) | (refine condN (by (first | exact trivial | assumption | omega | (simp only [inK, lenR] at *; omega) | (simp; done) | fail)) (Nx.mk ?_); conv => whnf) | (refine Nx.mk ?_; conv => whnf))
  refine ⟨[(16, nm 6)], rfl, ?_, ?_, ?_, fun _ => ?_⟩
  · ((try conv => whnf); refine ⟨rfl, by rfl, ?_, ?_⟩ <;> ((repeat' ((try conv => whnf); (first | exact trivial | exact Eq.refl _ | exact Or.inl (Eq.refl _) | refine And.intro ?_ ?_ | exact fun _ _ _ _ => Eq.refl _ | refine cellJ (fun _ _ => ?_) | (refine cellB ?_; (conv => whnf); refine And.intro ?_ ?_) | exact Nat.le_of_ble_eq_true (Eq.refl true) | exact ⟨_, _, Eq.refl _, Eq.refl _⟩ | fail))) <;> (try conv => whnf)))
  all_goals ((repeat' ((try conv => whnf); (first | exact trivial | exact Eq.refl _ | exact Or.inl (Eq.refl _) | refine And.intro ?_ ?_ | exact fun _ _ _ _ => Eq.refl _ | refine cellJ (fun _ _ => ?_) | (refine cellB ?_; (conv => whnf); refine And.intro ?_ ?_) | exact Nat.le_of_ble_eq_true (Eq.refl true) | exact ⟨_, _, Eq.refl _, Eq.refl _⟩ | fail))) <;> (try conv => whnf))
def rfp (n : Int) : Int := if n < 0 then 0 else max 1 (8 / (1 + n / 4))
theorem iRfp_fn (n : Int) (h1 : n ≤ 1000000000000) : Fn Try.prog 38 true (.cons (.I n) .nil) [] (.I (rfp n)) [] := by
  by_cases hn : n < 0
  · (refine Fn_of tysOk Try.func38 rfl rfl (by simp [AV.len, Try.f38]) ⟨?_⟩; conv => whnf)
    (repeat' first | (refine splitD (fun hs => Nx.mk ?_) (fun hs => Nx.mk ?_) <;> ((try simp only [Ct.len] at hs); revert hs; intro _; conv => whnf)) | (refine splitB (fun _ => Nx.mk ?_) (fun _ => Nx.mk ?_) <;> conv => whnf) | (refine idxNat (by (first | exact trivial | assumption | omega | (simp only [inK, lenR] at *; omega) | (simp; done) | fail)) (Nx.mk ?_); conv => whnf) | (refine idxPred (by omega) (by (first | exact trivial | assumption | omega | (simp only [inK, lenR] at *; omega) | (simp; done) | fail)) (Nx.mk ?_); conv => whnf) | (refine idxSucc (by (first | exact trivial | assumption | omega | (simp only [inK, lenR] at *; omega) | (simp; done) | fail)) (Nx.mk ?_); conv => whnf) | (refine idxTo (by omega) (by (first | exact trivial | assumption | omega | (simp only [inK, lenR] at *; omega) | (simp; done) | fail)) (Nx.mk ?_); conv => whnf) | (refine mkNat (by omega) (by omega) (Nx.mk ?_); conv => whnf) | (refine ar64 (by omega) (Nx.mk ?_); conv => whnf) | (refine ar_in (by (first | exact trivial | assumption | omega | (simp only [inK, lenR] at *; omega) | (simp; done) | fail)) (Nx.mk ?_); conv => whnf) | (refine nilQ (fun _ => Nx.mk ?_) (Nx.mk ?_) <;> conv => whnf) | (refine condN Try.underlying4 (Nx.mk ?_); conv => whnf) | (refine condN (by (first | exact trivial | assumption | omega | (simp only [inK, lenR] at *; omega) | (simp; done) | fail)) (Nx.mk ?_); conv => whnf) | (refine Nx.mk ?_; conv => whnf))
    (all_goals try first | contradiction | (exfalso; omega))
    all_goals ((refine ⟨[], rfl, ⟨rfl, rfl, trivial, trivial⟩, ?_, ⟨?_, trivial⟩, fun _ => ⟨?_, trivial⟩⟩ <;> ((repeat' ((try conv => whnf); (first | exact trivial | exact Eq.refl _ | exact Or.inl (Eq.refl _) | refine And.intro ?_ ?_ | exact fun _ _ _ _ => Eq.refl _ | refine cellJ (fun _ _ => ?_) | (refine cellB ?_; (conv => whnf); refine And.intro ?_ ?_) | exact Nat.le_of_ble_eq_true (Eq.refl true) | exact ⟨_, _, Eq.refl _, Eq.refl _⟩ | fail))) <;> (try conv => whnf))); exact (if_pos hn).symm)
  · have e1 : n.tdiv 4 = n / 4 := Int.tdiv_eq_ediv_of_nonneg (by omega)
    have b1 : 0 ≤ n.tdiv 4 ∧ n.tdiv 4 ≤ 1000000000000 := by omega
    have e2 : rfp n = max 1 (8 / (1 + n.tdiv 4)) := by unfold rfp; rw [if_neg hn, e1]
    have q1 : (4 : Int) ≠ 0 ∧ inK .i64 (n.tdiv 4) := ⟨by omega, by simp only [inK]; omega⟩
    have e3 : (8 : Int).tdiv (1 + n.tdiv 4) = 8 / (1 + n.tdiv 4) := Int.tdiv_eq_ediv_of_nonneg (by omega)
    have b3 : 0 ≤ (8 : Int).tdiv (1 + n.tdiv 4) ∧ (8 : Int).tdiv (1 + n.tdiv 4) ≤ 8 := by
      rw [e3]
      exact ⟨Int.ediv_nonneg (by omega) (by omega), Int.ediv_le_self _ (by omega)⟩
    have q3 : 1 + n.tdiv 4 ≠ 0 ∧ inK .i64 ((8 : Int).tdiv (1 + n.tdiv 4)) := ⟨by omega, by simp only [inK]; omega⟩
    (refine Fn_of tysOk Try.func38 rfl rfl (by simp [AV.len, Try.f38]) ⟨?_⟩; conv => whnf)
    (repeat' first | (refine splitD (fun hs => Nx.mk ?_) (fun hs => Nx.mk ?_) <;> ((try simp only [Ct.len] at hs); revert hs; intro _; conv => whnf)) | (refine splitB (fun _ => Nx.mk ?_) (fun _ => Nx.mk ?_) <;> conv => whnf) | (refine idxNat (by (first | exact trivial | assumption | omega | (simp only [inK, lenR] at *; omega) | (simp; done) | fail)) (Nx.mk ?_); conv => whnf) | (refine idxPred (by omega) (by (first | exact trivial | assumption | omega | (simp only [inK, lenR] at *; omega) | (simp; done) | fail)) (Nx.mk ?_); conv => whnf) | (refine idxSucc (by (first | exact trivial | assumption | omega | (simp only [inK, lenR] at *; omega) | (simp; done) | fail)) (Nx.mk ?_); conv => whnf) | (refine idxTo (by omega) (by (first | exact trivial | assumption | omega | (simp only [inK, lenR] at *; omega) | (simp; done) | fail)) (Nx.mk ?_); conv => whnf) | (refine mkNat (by omega) (by omega) (Nx.mk ?_); conv => whnf) | (refine ar64 (by omega) (Nx.mk ?_); conv => whnf) | (refine ar_in (by (first | exact trivial | assumption | omega | (simp only [inK, lenR] at *; omega) | (simp; done) | fail)) (Nx.mk ?_); conv => whnf) | (refine nilQ (fun _ => Nx.mk ?_) (Nx.mk ?_) <;> conv => whnf) | (refine condN Try.underlying4 (Nx.mk ?_); conv => whnf) | (refine condN (by (first | exact trivial | assumption | omega | (simp only [inK, lenR] at *; omega) | (simp; done) | fail)) (Nx.mk ?_); conv => whnf) | (refine Nx.mk ?_; conv => whnf))
    (all_goals try first | contradiction | (exfalso; omega))
    all_goals ((refine ⟨[], rfl, ⟨rfl, rfl, trivial, trivial⟩, ?_, ⟨?_, trivial⟩, fun _ => ⟨?_, trivial⟩⟩ <;> ((repeat' ((try conv => whnf); (first | exact trivial | exact Eq.refl _ | exact Or.inl (Eq.refl _) | refine And.intro ?_ ?_ | exact fun _ _ _ _ => Eq.refl _ | refine cellJ (fun _ _ => ?_) | (refine cellB ?_; (conv => whnf); refine And.intro ?_ ?_) | exact Nat.le_of_ble_eq_true (Eq.refl true) | exact ⟨_, _, Eq.refl _, Eq.refl _⟩ | fail))) <;> (try conv => whnf))); rw [e2, e3])
/-- The loads of a round; the prices after some rounds. -/
def ldL (code : List Int) (n r : Nat) : List Int := (List.range n).map fun i : Nat => atC code (r * 20 + i) % 7
noncomputable def prs (code : List Int) (g : Gr) : Nat → List Int
  | 0 => List.replicate g.2.1.length 0
  | r + 1 => updP g (prs code g r, ()) (ldL code g.2.1.length r)
theorem ldL_len {code : List Int} {n r : Nat} : (ldL code n r).length = n := by simp [ldL]
theorem ldL_at {code : List Int} {n r i : Nat} (h : i < n) : (ldL code n r).getD i 0 = atC code (r * 20 + i) % 7 := by simp [ldL, List.getD_eq_getElem?_getD, h]
theorem ldL_bd {code : List Int} {n r i : Nat} (h : i < n) : 0 ≤ (ldL code n r).getD i 0 ∧ (ldL code n r).getD i 0 ≤ 6 := by
  rw [ldL_at h]; omega
theorem prs_ok {code : List Int} {g : Gr} (hv : ValidG g) : ∀ {r : Nat}, r ≤ 10 → (prs code g r).length = g.2.1.length ∧ (∀ i, i < g.2.1.length → 0 ≤ (prs code g r).getD i 0 ∧ (prs code g r).getD i 0 ≤ 6 * r) ∧
    ∀ i, i < g.2.1.length → (prs code g (r + 1)).getD i 0 = max 0 ((prs code g r).getD i 0 + (ldL code g.2.1.length r).getD i 0 - (g.2.1.getD i default).2.2.1) := by
  intro r hr
  have step : ∀ {r : Nat}, r ≤ 10 → (prs code g r).length = g.2.1.length → (∀ i, i < g.2.1.length → 0 ≤ (prs code g r).getD i 0 ∧ (prs code g r).getD i 0 ≤ 6 * r) → (prs code g (r + 1)).length = g.2.1.length ∧ ∀ i, i < g.2.1.length → (prs code g (r + 1)).getD i 0 = max 0 ((prs code g r).getD i 0 + (ldL code g.2.1.length r).getD i 0 - (g.2.1.getD i default).2.2.1) := by
    intro r hr hl hbd
    have e : prs code g (r + 1) = (List.range g.2.1.length).map (newP g (prs code g r) (ldL code g.2.1.length r)) := by
      show updP g (prs code g r, ()) (ldL code g.2.1.length r) = _
      unfold updP
      rw [if_pos]
      refine ⟨?_, ldL_len, all_getD.2 (fun k hk => decide_eq_true ?_)⟩
      · simp only [priOk, Bool.and_eq_true, decide_eq_true_eq]
        refine ⟨⟨validG_iff.2 hv, hl⟩, all_getD.2 (fun k hk => decide_eq_true ?_)⟩
        have := hbd k (by rw [← hl]; exact hk)
        omega
      · have := ldL_bd (code := code) (r := r) (i := k) (n := g.2.1.length) (by rwa [ldL_len] at hk)
        omega
    rw [e]
    refine ⟨by simp, fun i hi => ?_⟩
    have e2 : ((List.range g.2.1.length).map (newP g (prs code g r) (ldL code g.2.1.length r))).getD i 0 = newP g (prs code g r) (ldL code g.2.1.length r) i := by simp [List.getD_eq_getElem?_getD, hi]
    rw [e2]
    have h1 := hbd i hi
    have h2 := ldL_bd (code := code) (r := r) hi
    have h3 := cap_in hv hi
    unfold newP
    omega
  induction r with
  | zero =>
    have h0 : (prs code g 0).length = g.2.1.length := by simp [prs]
    have h1 : ∀ i, i < g.2.1.length → 0 ≤ (prs code g 0).getD i 0 ∧ (prs code g 0).getD i 0 ≤ 6 * (0 : Nat) := fun i hi => by simp [prs, List.getD_eq_getElem?_getD, hi]
    exact ⟨h0, h1, (step hr h0 h1).2⟩
  | succ r ih =>
    obtain ⟨a, b, c⟩ := ih (by omega)
    have h0 := (step (by omega) a b).1
    have h1 : ∀ i, i < g.2.1.length → 0 ≤ (prs code g (r + 1)).getD i 0 ∧ (prs code g (r + 1)).getD i 0 ≤ 6 * ((r + 1 : Nat) : Int) := fun i hi => by
      have := c i hi
      have := b i hi
      have := ldL_bd (code := code) (r := r) hi
      have := cap_in hv hi
      omega
    exact ⟨h0, h1, (step hr h0 h1).2⟩
theorem rfp_bd {n : Int} (h : 0 ≤ n) : 1 ≤ rfp n ∧ rfp n ≤ 8 := by
  unfold rfp
  rw [if_neg (by omega)]
  have h1 : 0 < 1 + n / 4 := by omega
  have h2 : 8 / (1 + n / 4) ≤ 8 := Int.ediv_le_self _ (by omega)
  omega
theorem rfp_mono {n : Int} (h : 0 ≤ n) : rfp (n + 4) ≤ rfp n := by
  unfold rfp
  rw [if_neg (by omega), if_neg (by omega)]
  have h1 : 0 < 1 + n / 4 := by omega
  have h2 : (n + 4) / 4 = n / 4 + 1 := by omega
  rw [h2]
  have h3 : 8 / (1 + (n / 4 + 1)) ≤ 8 / (1 + n / 4) := by
    refine (Int.le_ediv_iff_mul_le h1).2 ?_
    have h4 : 8 / (1 + (n / 4 + 1)) * (1 + (n / 4 + 1)) ≤ 8 := Int.ediv_mul_le _ (by omega)
    have h5 : 0 ≤ 8 / (1 + (n / 4 + 1)) := Int.ediv_nonneg (by omega) (by omega)
    have h6 : 8 / (1 + (n / 4 + 1)) * (1 + (n / 4 + 1)) = 8 / (1 + (n / 4 + 1)) * (1 + n / 4) + 8 / (1 + (n / 4 + 1)) := by rw [Int.mul_add, Int.mul_add, Int.mul_add]; omega
    omega
  omega
end Go.Proofs.Ytmnbpamaiboghaa
