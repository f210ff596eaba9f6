/-
  Prices: arePrices, UpdatePrices.
-/
import Derived.Test.YtmnbpamaiboghaaSbFf
namespace Go.Proofs.Ytmnbpamaiboghaa
set_option linter.unusedVariables false
set_option linter.unusedSimpArgs false
set_option maxRecDepth 100000
set_option maxHeartbeats 4000000
attribute [local irreducible] Fn
noncomputable def priOk (g : Gr) (p : L1) : Bool := validG g && decide (p.1.length = g.2.1.length) && p.1.all fun x => decide (0 ≤ x ∧ x ≤ 100)
theorem all_getD {φ : Int → Bool} {xs : List Int} : (xs.all φ = true) ↔ ∀ k, k < xs.length → φ (xs.getD k 0) = true := by
  rw [List.all_eq_true]
  constructor
  · intro h k hk
    rw [List.getD_eq_getElem?_getD, List.getElem?_eq_getElem hk]
    exact h _ (List.getElem_mem hk)
  · intro h x hx
    obtain ⟨k, hk, rfl⟩ := List.getElem_of_mem hx
    have := h k hk
    rw [List.getD_eq_getElem?_getD, List.getElem?_eq_getElem hk] at this
    exact this
theorem any_not {φ : Int → Bool} {xs : List Int} : (xs.any fun x => !φ x) = !(xs.all φ) := by
  induction xs with
  | nil => rfl
  | cons x xs ih => simp [List.any_cons, List.all_cons, ih]
theorem iPriOk_fn (g : Gr) (p : L1) (h : g.2.1.length ≤ 1048576) (h1 : p.1.length ≤ 1048576) : Fn Try.prog 106 true (.cons (GrA g) (.cons (L1A p) .nil)) [] (.b (priOk g p)) [] := by
  (refine Fn_of tysOk Try.func106 rfl rfl (by simp [AV.len, Try.f106]) ⟨?_⟩; conv => whnf)
  ((refine ⟨_, [], _, [], _, _, (iValid_fn g h), rfl, trivial, ?_, Nx.mk ?_⟩); · ((repeat' ((try conv => whnf); (first | exact trivial | exact Eq.refl _ | exact Or.inl (Eq.refl _) | refine And.intro ?_ ?_ | exact fun _ _ _ _ => Eq.refl _ | refine cellJ (fun _ _ => ?_) | (refine cellB ?_; (conv => whnf); refine And.intro ?_ ?_) | exact Nat.le_of_ble_eq_true (Eq.refl true) | exact ⟨_, _, Eq.refl _, Eq.refl _⟩ | fail))) <;> (try conv => whnf))); (conv => whnf); (repeat' first | (refine splitD (fun hs => Nx.mk ?_) (fun hs => Nx.mk ?_) <;> ((try simp only [Ct.len] at hs); revert hs; intro _; conv => whnf)) | (refine splitB (fun _ => Nx.mk ?_) (fun _ => Nx.mk ?_) <;> conv => whnf) | (refine idxNat (by (first | exact trivial | assumption | omega | (simp only [inK, lenR] at *; omega) | (simp; done) | fail)) (Nx.mk ?_); conv => whnf) | (refine idxPred (by omega) (by (first | exact trivial | assumption | omega | (simp only [inK, lenR] at *; omega) | (simp; done) | fail)) (Nx.mk ?_); conv => whnf) | (refine idxSucc (by (first | exact trivial | assumption | omega | (simp only [inK, lenR] at *; omega) | (simp; done) | fail)) (Nx.mk ?_); conv => whnf) | (refine idxTo (by omega) (by (first | exact trivial | assumption | omega | (simp only [inK, lenR] at *; omega) | (simp; done) | fail)) (Nx.mk ?_); conv => whnf) | (refine mkNat (by omega) (by omega) (Nx.mk ?_); conv => whnf) | (refine ar64 (by omega) (Nx.mk ?_); conv => whnf) | (refine ar_in (by (first | exact trivial | assumption | omega | (simp only [inK, lenR] at *; omega) | (simp; done) | fail)) (Nx.mk ?_); conv => whnf) | (refine nilQ (fun _ => Nx.mk ?_) (Nx.mk ?_) <;> conv => whnf) | (refine condN Try.underlying4 (Nx.mk ?_); conv => whnf) | (refine condN (by (first | exact trivial | assumption | omega | (simp only [inK, lenR] at *; omega) | (simp; done) | fail)) (Nx.mk ?_); conv => whnf) | (refine Nx.mk ?_; conv => whnf))
  · ((refine ⟨_, [], _, [], _, _, (containsFunc_fn _ _ arep1_tests p.1 (by omega)), rfl, trivial, ?_, Nx.mk ?_⟩); · ((repeat' ((try conv => whnf); (first | exact trivial | exact Eq.refl _ | exact Or.inl (Eq.refl _) | refine And.intro ?_ ?_ | exact fun _ _ _ _ => Eq.refl _ | refine cellJ (fun _ _ => ?_) | (refine cellB ?_; (conv => whnf); refine And.intro ?_ ?_) | exact Nat.le_of_ble_eq_true (Eq.refl true) | exact ⟨_, _, Eq.refl _, Eq.refl _⟩ | fail))) <;> (try conv => whnf))); (conv => whnf); (repeat' first | (refine splitD (fun hs => Nx.mk ?_) (fun hs => Nx.mk ?_) <;> ((try simp only [Ct.len] at hs); revert hs; intro _; conv => whnf)) | (refine splitB (fun _ => Nx.mk ?_) (fun _ => Nx.mk ?_) <;> conv => whnf) | (refine idxNat (by (first | exact trivial | assumption | omega | (simp only [inK, lenR] at *; omega) | (simp; done) | fail)) (Nx.mk ?_); conv => whnf) | (refine idxPred (by omega) (by (first | exact trivial | assumption | omega | (simp only [inK, lenR] at *; omega) | (simp; done) | fail)) (Nx.mk ?_); conv => whnf) | (refine idxSucc (by (first | exact trivial | assumption | omega | (simp only [inK, lenR] at *; omega) | (simp; done) | fail)) (Nx.mk ?_); conv => whnf) | (refine idxTo (by omega) (by (first | exact trivial | assumption | omega | (simp only [inK, lenR] at *; omega) | (simp; done) | fail)) (Nx.mk ?_); conv => whnf) | (refine mkNat (by omega) (by omega) (Nx.mk ?_); conv => whnf) | (refine ar64 (by omega) (Nx.mk ?_); conv => whnf) | (refine ar_in (by (first | exact trivial | assumption | omega | (simp only [inK, lenR] at *; omega) | (simp; done) | fail)) (Nx.mk ?_); conv => whnf) | (refine nilQ (fun _ => Nx.mk ?_) (Nx.mk ?_) <;> conv => whnf) | (refine condN Try.underlying4 (Nx.mk ?_); conv => whnf) | (refine condN (by (first | exact trivial | assumption | omega | (simp only [inK, lenR] at *; omega) | (simp; done) | fail)) (Nx.mk ?_); conv => whnf) | (refine Nx.mk ?_; conv => whnf))
    all_goals (refine ⟨[], rfl, ⟨rfl, rfl, trivial, trivial⟩, ?_, ⟨?_, trivial⟩, fun _ => ⟨?_, trivial⟩⟩ <;> ((repeat' ((try conv => whnf); (first | exact trivial | exact Eq.refl _ | exact Or.inl (Eq.refl _) | refine And.intro ?_ ?_ | exact fun _ _ _ _ => Eq.refl _ | refine cellJ (fun _ _ => ?_) | (refine cellB ?_; (conv => whnf); refine And.intro ?_ ?_) | exact Nat.le_of_ble_eq_true (Eq.refl true) | exact ⟨_, _, Eq.refl _, Eq.refl _⟩ | fail))) <;> (try conv => whnf)))
    · rename_i h2 h3 h4
      rw [any_not] at h4
      have h4 : (p.1.all fun x => decide (0 ≤ x ∧ x ≤ 100)) = false := by simpa using h4
      simp only [priOk, h4, Bool.and_false]
    · rename_i h2 h3 h4
      rw [any_not] at h4
      have h4 : (p.1.all fun x => decide (0 ≤ x ∧ x ≤ 100)) = true := by simpa using h4
      simp only [priOk, h2, h4, Bool.true_and, Bool.and_true]
      exact (decide_eq_true (by omega)).symm
  · (refine ⟨[], rfl, ⟨rfl, rfl, trivial, trivial⟩, ?_, ⟨?_, trivial⟩, fun _ => ⟨?_, trivial⟩⟩ <;> ((repeat' ((try conv => whnf); (first | exact trivial | exact Eq.refl _ | exact Or.inl (Eq.refl _) | refine And.intro ?_ ?_ | exact fun _ _ _ _ => Eq.refl _ | refine cellJ (fun _ _ => ?_) | (refine cellB ?_; (conv => whnf); refine And.intro ?_ ?_) | exact Nat.le_of_ble_eq_true (Eq.refl true) | exact ⟨_, _, Eq.refl _, Eq.refl _⟩ | fail))) <;> (try conv => whnf)))
    simp only [priOk]
    rw [decide_eq_false (by omega : ¬ p.1.length = g.2.1.length), Bool.and_false, Bool.false_and]
  · (refine ⟨[], rfl, ⟨rfl, rfl, trivial, trivial⟩, ?_, ⟨?_, trivial⟩, fun _ => ⟨?_, trivial⟩⟩ <;> ((repeat' ((try conv => whnf); (first | exact trivial | exact Eq.refl _ | exact Or.inl (Eq.refl _) | refine And.intro ?_ ?_ | exact fun _ _ _ _ => Eq.refl _ | refine cellJ (fun _ _ => ?_) | (refine cellB ?_; (conv => whnf); refine And.intro ?_ ?_) | exact Nat.le_of_ble_eq_true (Eq.refl true) | exact ⟨_, _, Eq.refl _, Eq.refl _⟩ | fail))) <;> (try conv => whnf)))
    rename_i h2
    simp only [priOk, h2, Bool.false_and]
/-- The new price of edge i. -/
def newP (g : Gr) (p l : List Int) (i : Nat) : Int := max 0 (min 100 (p.getD i 0 + l.getD i 0 - (g.2.1.getD i default).2.2.1))
noncomputable def updP (g : Gr) (p : L1) (l : List Int) : List Int :=
  if priOk g p = true ∧ l.length = g.2.1.length ∧ (l.all fun x => decide (0 ≤ x ∧ x ≤ 1000000000000)) = true then (List.range g.2.1.length).map (newP g p.1 l) else p.1
theorem priOk_spec {g : Gr} {p : L1} (h : priOk g p = true) : ValidG g ∧ p.1.length = g.2.1.length ∧ ∀ k, k < p.1.length → 0 ≤ p.1.getD k 0 ∧ p.1.getD k 0 ≤ 100 := by
  simp only [priOk, Bool.and_eq_true] at h
  obtain ⟨⟨h1, h2⟩, h3⟩ := h
  exact ⟨validG_iff.1 h1, of_decide_eq_true h2, fun k hk => of_decide_eq_true (all_getD.1 h3 k hk)⟩
theorem cap_in {g : Gr} (h : ValidG g) {i : Nat} (hi : i < g.2.1.length) : 1 ≤ (g.2.1.getD i default).2.2.1 ∧ (g.2.1.getD i default).2.2.1 ≤ 8 := by
  have := h.edge i hi
  simp only [EdgeOk] at this
  omega
theorem map_range_succ {X : Type} (f : Nat → X) (i : Nat) : (List.range (i + 1)).map f = (List.range i).map f ++ [f i] := by simp [List.range_succ]
theorem set_pref {f : Nat → Int} {xs : List Int} {i : Nat} {x : Int} (h : i < xs.length) (hx : x = f i) : ((List.range i).map f ++ xs.drop i).set i x = (List.range (i + 1)).map f ++ xs.drop (i + 1) := by
  rw [List.set_append_right _ _ (by simp), List.length_map, List.length_range, Nat.sub_self, List.drop_eq_getElem_cons h, List.set_cons_zero, map_range_succ, List.append_assoc, hx]
  rfl
theorem len_pref {f : Nat → Int} {xs : List Int} {i : Nat} (h : i ≤ xs.length) : ((List.range i).map f ++ xs.drop i).length = xs.length := by simp; omega
end Go.Proofs.Ytmnbpamaiboghaa

