/-
  MaxFlow of the program; the reference's search: which edge a node was found by, as a list.
-/
import Derived.Test.YtmnbpamaiboghaaFr
import Derived.Test.YtmnbpamaiboghaaFo
namespace Go.Proofs.Ytmnbpamaiboghaa
set_option linter.unusedVariables false
set_option linter.unusedSimpArgs false
set_option maxRecDepth 100000
set_option maxHeartbeats 4000000
attribute [local irreducible] Fn
noncomputable def mflow (g : Gr) (s t : Int) : List Int := if quest g s t = true then mfF g s t else []
attribute [local irreducible] mfF mfM keys
theorem iMaxFlow_fn (g : Gr) (s t : Int) (h : g.2.1.length ≤ 1048576) : Fn Try.prog 58 true (.cons (GrA g) (.cons (.I s) (.cons (.I t) .nil))) [] (.agg (.cons (.os (rt 16)) .nil)) [(16, .row 3 (.ints .i64 (mflow g s t)))] := by
  (refine Fn_of tysOk Try.func58 rfl rfl (by simp [AV.len, Try.f58]) ⟨?_⟩; conv => whnf)
  cases hq : quest g s t with
  | true =>
    have c1 := (iQuest_fn g s t h).tt hq
    have e : mflow g s t = mfF g s t := if_pos hq
    rw [e]
    (repeat' first | ((with_reducible show ∃ _ : Bool, _); first | (refine ⟨_, [], _, [], _, _, c1, rfl, trivial, ?_, Nx.mk ?_⟩; (focus (((repeat' ((try conv => whnf); (first | exact trivial | exact Eq.refl _ | exact Or.inl (Eq.refl _) | refine And.intro ?_ ?_ | exact fun _ _ _ _ => Eq.refl _ | refine cellJ (fun _ _ => ?_) | (refine cellB ?_; (conv => whnf); refine And.intro ?_ ?_) | exact Nat.le_of_ble_eq_true (Eq.refl true) | exact ⟨_, _, Eq.refl _, Eq.refl _⟩ | fail))) <;> (try conv => whnf)); done)); conv => whnf) | (refine ⟨_, [], _, [], _, _, iMf_fn g s t (quest_iff.1 hq), rfl, trivial, ?_, Nx.mk ?_⟩; (focus (((repeat' ((try conv => whnf); (first | exact trivial | exact Eq.refl _ | exact Or.inl (Eq.refl _) | refine And.intro ?_ ?_ | exact fun _ _ _ _ => Eq.refl _ | refine cellJ (fun _ _ => ?_) | (refine cellB ?_; (conv => whnf); refine And.intro ?_ ?_) | exact Nat.le_of_ble_eq_true (Eq.refl true) | exact ⟨_, _, Eq.refl _, Eq.refl _⟩ | fail))) <;> (try conv => whnf)); done)); conv => whnf))  | (refine splitD (fun hs => Nx.mk ?_) (fun hs => Nx.mk ?_) <;> ((try simp only [Ct.len] at hs); revert hs; intro _; conv => whnf)) | (refine splitB (fun _ => Nx.mk ?_) (fun _ => Nx.mk ?_) <;> conv => whnf) | (refine idxNat (by (first | exact trivial | assumption | omega | (simp only [inK, lenR] at *; omega) | (simp; done) | fail)) (Nx.mk ?_); conv => whnf) | (refine idxPred (by omega) (by (first | exact trivial | assumption | omega | (simp only [inK, lenR] at *; omega) | (simp; done) | fail)) (Nx.mk ?_); conv => whnf) | (refine idxSucc (by (first | exact trivial | assumption | omega | (simp only [inK, lenR] at *; omega) | (simp; done) | fail)) (Nx.mk ?_); conv => whnf) | (refine idxTo (by omega) (by (first | exact trivial | assumption | omega | (simp only [inK, lenR] at *; omega) | (simp; done) | fail)) (Nx.mk ?_); conv => whnf) | (refine mkNat (by omega) (by omega) (Nx.mk ?_); conv => whnf) | (refine ar64 (by omega) (Nx.mk ?_); conv => whnf) | (refine ar_in (by (first | exact trivial | assumption | omega | (simp only [inK, lenR] at *; omega) | (simp; done) | fail)) (Nx.mk ?_); conv => whnf) | (refine nilQ (fun _ => Nx.mk ?_) (Nx.mk ?_) <;> conv => whnf) | (refine condN Try.underlying4 (Nx.mk ?_); conv => whnf) | (refine condN (by (first | exact trivial | assumption | omega | (simp only [inK, lenR] at *; omega) | (simp; done) | fail)) (Nx.mk ?_); conv => whnf) | (refine Nx.mk ?_; conv => whnf))
    refine ⟨[(16, nm 19)], rfl, ?_, ?_, ?_, fun _ => ?_⟩
    · ((try conv => whnf); refine ⟨rfl, by rfl, ?_, ?_⟩ <;> ((repeat' ((try conv => whnf); (first | exact trivial | exact Eq.refl _ | exact Or.inl (Eq.refl _) | refine And.intro ?_ ?_ | exact fun _ _ _ _ => Eq.refl _ | refine cellJ (fun _ _ => ?_) | (refine cellB ?_; (conv => whnf); refine And.intro ?_ ?_) | exact Nat.le_of_ble_eq_true (Eq.refl true) | exact ⟨_, _, Eq.refl _, Eq.refl _⟩ | fail))) <;> (try conv => whnf)))
    all_goals ((repeat' ((try conv => whnf); (first | exact trivial | exact Eq.refl _ | exact Or.inl (Eq.refl _) | refine And.intro ?_ ?_ | exact fun _ _ _ _ => Eq.refl _ | refine cellJ (fun _ _ => ?_) | (refine cellB ?_; (conv => whnf); refine And.intro ?_ ?_) | exact Nat.le_of_ble_eq_true (Eq.refl true) | exact ⟨_, _, Eq.refl _, Eq.refl _⟩ | fail))) <;> (try conv => whnf))
  | false =>
    have e : mflow g s t = [] := if_neg (by simp [hq])
    rw [e]
    (repeat' first | ((with_reducible show ∃ _ : Bool, _); first | (refine ⟨_, [], _, [], _, _, iQuest_fn g s t h, rfl, trivial, ?_, Nx.mk ?_⟩; (focus (((repeat' ((try conv => whnf); (first | exact trivial | exact Eq.refl _ | exact Or.inl (Eq.refl _) | refine And.intro ?_ ?_ | exact fun _ _ _ _ => Eq.refl _ | refine cellJ (fun _ _ => ?_) | (refine cellB ?_; (conv => whnf); refine And.intro ?_ ?_) | exact Nat.le_of_ble_eq_true (Eq.refl true) | exact ⟨_, _, Eq.refl _, Eq.refl _⟩ | fail))) <;> (try conv => whnf)); done)); conv => whnf))  | (refine splitD (fun hs => Nx.mk ?_) (fun hs => Nx.mk ?_) <;> ((try simp only [Ct.len] at hs); revert hs; intro _; conv => whnf)) | (refine splitB (fun _ => Nx.mk ?_) (fun _ => Nx.mk ?_) <;> conv => whnf) | (refine idxNat (by (first | exact trivial | assumption | omega | (simp only [inK, lenR] at *; omega) | (simp; done) | fail)) (Nx.mk ?_); conv => whnf) | (refine idxPred (by omega) (by (first | exact trivial | assumption | omega | (simp only [inK, lenR] at *; omega) | (simp; done) | fail)) (Nx.mk ?_); conv => whnf) | (refine idxSucc (by (first | exact trivial | assumption | omega | (simp only [inK, lenR] at *; omega) | (simp; done) | fail)) (Nx.mk ?_); conv => whnf) | (refine idxTo (by omega) (by (first | exact trivial | assumption | omega | (simp only [inK, lenR] at *; omega) | (simp; done) | fail)) (Nx.mk ?_); conv => whnf) | (refine mkNat (by omega) (by omega) (Nx.mk ?_); conv => whnf) | (refine ar64 (by omega) (Nx.mk ?_); conv => whnf) | (refine ar_in (by (first | exact trivial | assumption | omega | (simp only [inK, lenR] at *; omega) | (simp; done) | fail)) (Nx.mk ?_); conv => whnf) | (refine nilQ (fun _ => Nx.mk ?_) (Nx.mk ?_) <;> conv => whnf) | (refine condN Try.underlying4 (Nx.mk ?_); conv => whnf) | (refine condN (by (first | exact trivial | assumption | omega | (simp only [inK, lenR] at *; omega) | (simp; done) | fail)) (Nx.mk ?_); conv => whnf) | (refine Nx.mk ?_; conv => whnf))
    · rename_i h1; rw [hq] at h1; cases h1
    · refine ⟨[], rfl, ?_, ?_, ?_, fun _ => ?_⟩
      · ((try conv => whnf); refine ⟨rfl, by rfl, ?_, ?_⟩ <;> ((repeat' ((try conv => whnf); (first | exact trivial | exact Eq.refl _ | exact Or.inl (Eq.refl _) | refine And.intro ?_ ?_ | exact fun _ _ _ _ => Eq.refl _ | refine cellJ (fun _ _ => ?_) | (refine cellB ?_; (conv => whnf); refine And.intro ?_ ?_) | exact Nat.le_of_ble_eq_true (Eq.refl true) | exact ⟨_, _, Eq.refl _, Eq.refl _⟩ | fail))) <;> (try conv => whnf)))
      all_goals ((repeat' ((try conv => whnf); (first | exact trivial | exact Eq.refl _ | exact Or.inl (Eq.refl _) | refine And.intro ?_ ?_ | exact fun _ _ _ _ => Eq.refl _ | refine cellJ (fun _ _ => ?_) | (refine cellB ?_; (conv => whnf); refine And.intro ?_ ?_) | exact Nat.le_of_ble_eq_true (Eq.refl true) | exact ⟨_, _, Eq.refl _, Eq.refl _⟩ | fail))) <;> (try conv => whnf))
/-- The edge that node v was found by, as the reference writes it. -/
def byV (g : Gr) (m : Pairs) (s : Int) (v : Int) : Int := if v ≠ s ∧ mhas m v = true then (if (eAt g (mgetI m v).toNat).2.1 = v then mgetI m v else (g.2.1.length : Int) + mgetI m v) else -1
def byT (g : Gr) (s : Int) (m : Pairs) : List Int := (List.range g.1.toNat).map fun v : Nat => byV g m s v
theorem byT_len (g : Gr) (s : Int) (m : Pairs) : (byT g s m).length = g.1.toNat := by simp [byT]
theorem byT_getD {g : Gr} {s : Int} {m : Pairs} {v : Nat} (h : v < g.1.toNat) : (byT g s m).getD v 0 = byV g m s v := by
  simp [byT, List.getD_eq_getElem?_getD, h]
theorem mgetI_app {m : Pairs} {x b v : Int} (h : ¬ mhas m b = true) : mgetI (m ++ [(b, v)]) x = if x = b then v else mgetI m x := by
  unfold mgetI
  rw [mfind_app h]
  split <;> rfl
theorem mhas_app {m : Pairs} {x b v : Int} : mhas (m ++ [(b, v)]) x = true ↔ (mhas m x = true ∨ x = b) := by
  rw [mhas_iff, mhas_iff]; simp
theorem byT_add {g : Gr} {s b : Int} {m : Pairs} {k : Int} {x : Int} (hb0 : 0 ≤ b) (hb1 : b < g.1) (hbs : b ≠ s) (h : ¬ mhas m b = true) (hx : x = if (eAt g k.toNat).2.1 = b then k else (g.2.1.length : Int) + k) : (byT g s m).set b.toNat x = byT g s (m ++ [(b, k)]) := by
  refine ext_getD (z := 0) (by simp [byT_len]) (fun v hv => ?_)
  have hv : v < g.1.toNat := by simpa [byT_len] using hv
  rw [byT_getD hv]
  by_cases e : b.toNat = v
  · subst e
    rw [getD_set_eq (by rw [byT_len]; exact hv)]
    have eb : ((b.toNat : Nat) : Int) = b := by omega
    unfold byV
    rw [eb, if_pos ⟨hbs, mhas_app.2 (.inr rfl)⟩, mgetI_app h, if_pos rfl, hx]
  · rw [getD_set_ne e, byT_getD hv]
    have eb : ((v : Nat) : Int) ≠ b := by omega
    unfold byV
    rw [mgetI_app h, if_neg eb]
    by_cases hc : (v : Int) ≠ s ∧ mhas m v = true
    · rw [if_pos hc, if_pos (c := (v : Int) ≠ s ∧ mhas (m ++ [(b, k)]) v = true) ⟨hc.1, mhas_app.2 (.inl hc.2)⟩]
    · rw [if_neg hc, if_neg (c := (v : Int) ≠ s ∧ mhas (m ++ [(b, k)]) v = true) (fun h2 => hc ⟨h2.1, (mhas_app.1 h2.2).resolve_right eb⟩)]
theorem byT_zero {g : Gr} {s : Int} : byT g s [(s, -1)] = List.replicate g.1.toNat (-1) := by
  refine ext_getD (z := 0) (by simp [byT_len]) (fun v hv => ?_)
  have hv : v < g.1.toNat := by simpa [byT_len] using hv
  rw [byT_getD hv]
  have e : (List.replicate g.1.toNat (-1 : Int)).getD v 0 = -1 := by simp [List.getD_eq_getElem?_getD, hv]
  rw [e]
  unfold byV
  exact if_neg (fun h => h.1 (by have h2 := mhas_iff.1 h.2; simpa using h2))
end Go.Proofs.Ytmnbpamaiboghaa
