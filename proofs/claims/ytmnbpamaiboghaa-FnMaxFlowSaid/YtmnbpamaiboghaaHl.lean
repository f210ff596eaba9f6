/-
  The least cut, of both.
-/
import Derived.Test.YtmnbpamaiboghaaHk
import Derived.Test.YtmnbpamaiboghaaHb
import Derived.Test.YtmnbpamaiboghaaFh
namespace Go.Proofs.Ytmnbpamaiboghaa
set_option linter.unusedVariables false
set_option linter.unusedSimpArgs false
set_option maxRecDepth 100000
set_option maxHeartbeats 4000000
attribute [local irreducible] Fn
theorem hasI_memI' (l : List Int) (x : Int) : hasI l x = memI l x := rfl
noncomputable def mcS (g : Gr) (s t : Int) : List Int := if quest g s t = true then sortI (mcL g s t) else []
theorem mcS_yes {g : Gr} {s t : Int} (h : quest g s t = true) : mcS g s t = sortI (mcL g s t) := if_pos h
theorem mcS_no {g : Gr} {s t : Int} (h : quest g s t = false) : mcS g s t = [] := if_neg (by simp [h])
theorem mcL_len {g : Gr} {s t : Int} (hq : Quest g s t) : (mcL g s t).length ≤ 8 := by
  have := nodup_le g.1.toNat (mcL g s t) (mcL_nd hq) (fun x hx => by have := mcL_rng hq x hx; omega)
  have := hq.v.hi
  omega
theorem mcS_len {g : Gr} {s t : Int} : (mcS g s t).length ≤ 8 := by
  cases hq : quest g s t with
  | true => rw [mcS_yes hq, sortI_len]; exact mcL_len (quest_iff.1 hq)
  | false => rw [mcS_no hq]; simp
/-- The nodes below n that stand in a list. -/
def inN (l : List Int) : Nat → List Int
  | 0 => []
  | n + 1 => if hasI l n = true then inN l n ++ [(n : Int)] else inN l n
theorem inN_mem {l : List Int} {x : Int} : ∀ {n : Nat}, x ∈ inN l n ↔ 0 ≤ x ∧ x < n ∧ x ∈ l := by
  intro n
  induction n with
  | zero => constructor
            · intro h; cases h
            · intro h; omega
  | succ n ih =>
    unfold inN
    have hm : hasI l n = true ↔ (n : Int) ∈ l := by rw [hasI_memI']; exact memI_iff
    split
    · rename_i h
      rw [List.mem_append, ih, List.mem_singleton]
      constructor
      · rintro (h1 | rfl)
        · exact ⟨h1.1, by omega, h1.2.2⟩
        · exact ⟨by omega, by omega, hm.1 h⟩
      · rintro ⟨h1, h2, h3⟩
        by_cases e : x = n
        · exact .inr e
        · exact .inl ⟨h1, by omega, h3⟩
    · rename_i h
      rw [ih]
      constructor
      · rintro ⟨h1, h2, h3⟩; exact ⟨h1, by omega, h3⟩
      · rintro ⟨h1, h2, h3⟩
        refine ⟨h1, ?_, h3⟩
        rcases Classical.em (x = n) with e | e
        · subst e; exact absurd (hm.2 h3) h
        · omega
theorem inN_up {l : List Int} : ∀ {n : Nat}, (inN l n).Pairwise (fun a b => a < b) := by
  intro n
  induction n with
  | zero => exact List.Pairwise.nil
  | succ n ih =>
    unfold inN
    split
    · rw [List.pairwise_append]
      refine ⟨ih, by simp, fun a ha b hb => ?_⟩
      rw [List.mem_singleton] at hb
      have := (inN_mem.1 ha).2.1
      omega
    · exact ih
theorem inN_len {l : List Int} : ∀ {n : Nat}, (inN l n).length ≤ n := by
  intro n
  induction n with
  | zero => exact Nat.le_refl _
  | succ n ih =>
    unfold inN
    split
    · rw [List.length_append, List.length_singleton]; omega
    · omega
theorem inN_yes {l : List Int} {n : Nat} (h : hasI l n = true) : inN l (n + 1) = inN l n ++ [(n : Int)] := if_pos h
theorem inN_no {l : List Int} {n : Nat} (h : hasI l n = false) : inN l (n + 1) = inN l n := if_neg (by rw [h]; exact Bool.false_ne_true)
/-- What is in order and has the same members is the same. -/
theorem sorted_eq {xs ys : List Int} (hx : xs.Pairwise (fun a b => a < b)) (hn : ys.Nodup) (hm : ∀ x, x ∈ xs ↔ x ∈ ys) : xs = sortI ys := by
  have hxn : xs.Nodup := hx.imp (fun h e => by omega)
  have hp : xs.Perm (sortI ys) := ((List.perm_ext_iff_of_nodup hxn hn).2 hm).trans sortI_perm.symm
  exact List.Perm.eq_of_pairwise (le := fun a b => a ≤ b) (fun a b _ _ h1 h2 => by omega) (hx.imp (fun h => by omega)) sortI_up hp
theorem inN_mcL {g : Gr} {s t : Int} (hq : Quest g s t) : inN (mcL g s t) g.1.toNat = sortI (mcL g s t) :=
  sorted_eq inN_up (mcL_nd hq) (fun x => by
    rw [inN_mem]
    have := hq.v.lo
    constructor
    · intro h; exact h.2.2
    · intro h; have := mcL_rng hq x h; exact ⟨this.1, by omega, h⟩)
attribute [local irreducible] mfF mfM keys netS mcL mcS sortI inN quest
theorem keys_mcL {g : Gr} {s t : Int} : keys (mfM g (mfF g s t) s) = mcL g s t := by with_unfolding_all rfl
theorem inN_zero {l : List Int} : inN l 0 = [] := by with_unfolding_all rfl
theorem iMinCut_fn (g : Gr) (s t : Int) (h : g.2.1.length ≤ 1048576) : Fn Try.prog 32 true (.cons (GrA g) (.cons (.I s) (.cons (.I t) .nil))) [] (.os (rt 16)) [(16, .row 3 (.ints .i64 (mcS g s t)))] := by
  (refine Fn_of tysOk Try.func32 rfl rfl (by simp [AV.len, Try.f32]) ⟨?_⟩; conv => whnf)
  cases hq : quest g s t with
  | true =>
    have hQ := quest_iff.1 hq
    have c1 := (iQuest_fn g s t h).tt hq
    have c2 := iMf_fn g s t hQ
    rw [keys_mcL] at c2
    have hl := mcL_len hQ
    rw [mcS_yes hq]
    (repeat' first | ((with_reducible show ∃ _ : Bool, _); first | (refine ⟨_, [], _, [], _, _, c1, rfl, trivial, ?_, Nx.mk ?_⟩; (focus (((repeat' ((try conv => whnf); (first | exact trivial | exact Eq.refl _ | exact Or.inl (Eq.refl _) | refine And.intro ?_ ?_ | exact fun _ _ _ _ => Eq.refl _ | refine cellJ (fun _ _ => ?_) | (refine cellB ?_; (conv => whnf); refine And.intro ?_ ?_) | exact Nat.le_of_ble_eq_true (Eq.refl true) | exact ⟨_, _, Eq.refl _, Eq.refl _⟩ | fail))) <;> (try conv => whnf)); done)); conv => whnf) | (refine ⟨_, [], _, [], _, _, c2, rfl, trivial, ?_, Nx.mk ?_⟩; (focus (((repeat' ((try conv => whnf); (first | exact trivial | exact Eq.refl _ | exact Or.inl (Eq.refl _) | refine And.intro ?_ ?_ | exact fun _ _ _ _ => Eq.refl _ | refine cellJ (fun _ _ => ?_) | (refine cellB ?_; (conv => whnf); refine And.intro ?_ ?_) | exact Nat.le_of_ble_eq_true (Eq.refl true) | exact ⟨_, _, Eq.refl _, Eq.refl _⟩ | fail))) <;> (try conv => whnf)); done)); conv => whnf) | (refine ⟨_, [rt (nm 18 + 1)], _, _, _, _, sort_fn (mcL g s t) (by omega), rfl, ?_, ?_, Nx.mk ?_⟩; (focus (((repeat' ((try conv => whnf); (first | exact trivial | exact Eq.refl _ | exact Or.inl (Eq.refl _) | refine And.intro ?_ ?_ | exact fun _ _ _ _ => Eq.refl _ | refine cellJ (fun _ _ => ?_) | (refine cellB ?_; (conv => whnf); refine And.intro ?_ ?_) | exact Nat.le_of_ble_eq_true (Eq.refl true) | exact ⟨_, _, Eq.refl _, Eq.refl _⟩ | fail))) <;> (try conv => whnf)); done)); (focus (((repeat' ((try conv => whnf); (first | exact trivial | exact Eq.refl _ | exact Or.inl (Eq.refl _) | refine And.intro ?_ ?_ | exact fun _ _ _ _ => Eq.refl _ | refine cellJ (fun _ _ => ?_) | (refine cellB ?_; (conv => whnf); refine And.intro ?_ ?_) | exact Nat.le_of_ble_eq_true (Eq.refl true) | exact ⟨_, _, Eq.refl _, Eq.refl _⟩ | fail))) <;> (try conv => whnf)); done)); conv => whnf))  | (refine splitD (fun hs => Nx.mk ?_) (fun hs => Nx.mk ?_) <;> ((try simp only [Ct.len] at hs); revert hs; intro _; conv => whnf)) | (refine splitB (fun _ => Nx.mk ?_) (fun _ => Nx.mk ?_) <;> conv => whnf) | (refine idxNat (by (first | exact trivial | assumption | omega | (simp only [inK, lenR] at *; omega) | (simp; done) | fail)) (Nx.mk ?_); conv => whnf) | (refine idxPred (by omega) (by (first | exact trivial | assumption | omega | (simp only [inK, lenR] at *; omega) | (simp; done) | fail)) (Nx.mk ?_); conv => whnf) | (refine idxSucc (by (first | exact trivial | assumption | omega | (simp only [inK, lenR] at *; omega) | (simp; done) | fail)) (Nx.mk ?_); conv => whnf) | (refine idxTo (by omega) (by (first | exact trivial | assumption | omega | (simp only [inK, lenR] at *; omega) | (simp; done) | fail)) (Nx.mk ?_); conv => whnf) | (refine mkNat (by omega) (by omega) (Nx.mk ?_); conv => whnf) | (refine ar64 (by omega) (Nx.mk ?_); conv => whnf) | (refine ar_in (by (first | exact trivial | assumption | omega | (simp only [inK, lenR] at *; omega) | (simp; done) | fail)) (Nx.mk ?_); conv => whnf) | (refine nilQ (fun _ => Nx.mk ?_) (Nx.mk ?_) <;> conv => whnf) | (refine condN Try.underlying4 (Nx.mk ?_); conv => whnf) | (refine condN (by (first | exact trivial | assumption | omega | (simp only [inK, lenR] at *; omega) | (simp; done) | fail)) (Nx.mk ?_); conv => whnf) | (refine Nx.mk ?_; conv => whnf))
    (all_goals try first | contradiction | (exfalso; omega))
    refine ⟨[(16, nm 18 + 1)], rfl, ?_, ?_, ?_, fun _ => ?_⟩
    · ((try conv => whnf); refine ⟨rfl, by rfl, ?_, ?_⟩ <;> ((repeat' ((try conv => whnf); (first | exact trivial | exact Eq.refl _ | exact Or.inl (Eq.refl _) | refine And.intro ?_ ?_ | exact fun _ _ _ _ => Eq.refl _ | refine cellJ (fun _ _ => ?_) | (refine cellB ?_; (conv => whnf); refine And.intro ?_ ?_) | exact Nat.le_of_ble_eq_true (Eq.refl true) | exact ⟨_, _, Eq.refl _, Eq.refl _⟩ | fail))) <;> (try conv => whnf)))
    all_goals ((repeat' ((try conv => whnf); (first | exact trivial | exact Eq.refl _ | exact Or.inl (Eq.refl _) | refine And.intro ?_ ?_ | exact fun _ _ _ _ => Eq.refl _ | refine cellJ (fun _ _ => ?_) | (refine cellB ?_; (conv => whnf); refine And.intro ?_ ?_) | exact Nat.le_of_ble_eq_true (Eq.refl true) | exact ⟨_, _, Eq.refl _, Eq.refl _⟩ | fail))) <;> (try conv => whnf))
  | false =>
    rw [mcS_no hq]
    (repeat' first | ((with_reducible show ∃ _ : Bool, _); first | (refine ⟨_, [], _, [], _, _, iQuest_fn g s t h, rfl, trivial, ?_, Nx.mk ?_⟩; (focus (((repeat' ((try conv => whnf); (first | exact trivial | exact Eq.refl _ | exact Or.inl (Eq.refl _) | refine And.intro ?_ ?_ | exact fun _ _ _ _ => Eq.refl _ | refine cellJ (fun _ _ => ?_) | (refine cellB ?_; (conv => whnf); refine And.intro ?_ ?_) | exact Nat.le_of_ble_eq_true (Eq.refl true) | exact ⟨_, _, Eq.refl _, Eq.refl _⟩ | fail))) <;> (try conv => whnf)); done)); conv => whnf))  | (refine splitD (fun hs => Nx.mk ?_) (fun hs => Nx.mk ?_) <;> ((try simp only [Ct.len] at hs); revert hs; intro _; conv => whnf)) | (refine splitB (fun _ => Nx.mk ?_) (fun _ => Nx.mk ?_) <;> conv => whnf) | (refine idxNat (by (first | exact trivial | assumption | omega | (simp only [inK, lenR] at *; omega) | (simp; done) | fail)) (Nx.mk ?_); conv => whnf) | (refine idxPred (by omega) (by (first | exact trivial | assumption | omega | (simp only [inK, lenR] at *; omega) | (simp; done) | fail)) (Nx.mk ?_); conv => whnf) | (refine idxSucc (by (first | exact trivial | assumption | omega | (simp only [inK, lenR] at *; omega) | (simp; done) | fail)) (Nx.mk ?_); conv => whnf) | (refine idxTo (by omega) (by (first | exact trivial | assumption | omega | (simp only [inK, lenR] at *; omega) | (simp; done) | fail)) (Nx.mk ?_); conv => whnf) | (refine mkNat (by omega) (by omega) (Nx.mk ?_); conv => whnf) | (refine ar64 (by omega) (Nx.mk ?_); conv => whnf) | (refine ar_in (by (first | exact trivial | assumption | omega | (simp only [inK, lenR] at *; omega) | (simp; done) | fail)) (Nx.mk ?_); conv => whnf) | (refine nilQ (fun _ => Nx.mk ?_) (Nx.mk ?_) <;> conv => whnf) | (refine condN Try.underlying4 (Nx.mk ?_); conv => whnf) | (refine condN (by (first | exact trivial | assumption | omega | (simp only [inK, lenR] at *; omega) | (simp; done) | fail)) (Nx.mk ?_); conv => whnf) | (refine Nx.mk ?_; conv => whnf))
    · rename_i h1; rw [hq] at h1; cases h1
    · refine ⟨[], rfl, ?_, ?_, ?_, fun _ => ?_⟩
      · ((try conv => whnf); refine ⟨rfl, by rfl, ?_, ?_⟩ <;> ((repeat' ((try conv => whnf); (first | exact trivial | exact Eq.refl _ | exact Or.inl (Eq.refl _) | refine And.intro ?_ ?_ | exact fun _ _ _ _ => Eq.refl _ | refine cellJ (fun _ _ => ?_) | (refine cellB ?_; (conv => whnf); refine And.intro ?_ ?_) | exact Nat.le_of_ble_eq_true (Eq.refl true) | exact ⟨_, _, Eq.refl _, Eq.refl _⟩ | fail))) <;> (try conv => whnf)))
      all_goals ((repeat' ((try conv => whnf); (first | exact trivial | exact Eq.refl _ | exact Or.inl (Eq.refl _) | refine And.intro ?_ ?_ | exact fun _ _ _ _ => Eq.refl _ | refine cellJ (fun _ _ => ?_) | (refine cellB ?_; (conv => whnf); refine And.intro ?_ ?_) | exact Nat.le_of_ble_eq_true (Eq.refl true) | exact ⟨_, _, Eq.refl _, Eq.refl _⟩ | fail))) <;> (try conv => whnf))
theorem sMinCut_fn (g : Gr) (s t : Int) (h : g.2.1.length ≤ 1048576) : Fn Try.prog 31 true (.cons (GrA g) (.cons (.I s) (.cons (.I t) .nil))) [] (.os (rt 16)) [(16, .row 3 (.ints .i64 (mcS g s t)))] := by
  (refine Fn_of tysOk Try.func31 rfl rfl (by simp [AV.len, Try.f31]) ⟨?_⟩; conv => whnf)
  cases hq : quest g s t with
  | true =>
    have hQ := quest_iff.1 hq
    have c1 := (sQuest_fn g s t h).tt hq
    have c2 := sMf_fn g s t hQ
    rw [keys_mcL] at c2
    have hl := mcL_len hQ
    have hg1 := hQ.v.lo
    have hg2 := hQ.v.hi
    have e9 := inN_mcL hQ
    obtain ⟨n, en⟩ : ∃ n : Nat, g.1 = (n : Int) := ⟨g.1.toNat, by omega⟩
    have en2 : g.1.toNat = n := by omega
    rw [en2] at e9
    rw [mcS_yes hq]
    (repeat' first | ((with_reducible show ∃ _ : Bool, _); first | (refine ⟨_, [], _, [], _, _, c1, rfl, trivial, ?_, Nx.mk ?_⟩; (focus (((repeat' ((try conv => whnf); (first | exact trivial | exact Eq.refl _ | exact Or.inl (Eq.refl _) | refine And.intro ?_ ?_ | exact fun _ _ _ _ => Eq.refl _ | refine cellJ (fun _ _ => ?_) | (refine cellB ?_; (conv => whnf); refine And.intro ?_ ?_) | exact Nat.le_of_ble_eq_true (Eq.refl true) | exact ⟨_, _, Eq.refl _, Eq.refl _⟩ | fail))) <;> (try conv => whnf)); done)); conv => whnf) | (refine ⟨_, [], _, [], _, _, c2, rfl, trivial, ?_, Nx.mk ?_⟩; (focus (((repeat' ((try conv => whnf); (first | exact trivial | exact Eq.refl _ | exact Or.inl (Eq.refl _) | refine And.intro ?_ ?_ | exact fun _ _ _ _ => Eq.refl _ | refine cellJ (fun _ _ => ?_) | (refine cellB ?_; (conv => whnf); refine And.intro ?_ ?_) | exact Nat.le_of_ble_eq_true (Eq.refl true) | exact ⟨_, _, Eq.refl _, Eq.refl _⟩ | fail))) <;> (try conv => whnf)); done)); conv => whnf))  | (refine splitD (fun hs => Nx.mk ?_) (fun hs => Nx.mk ?_) <;> ((try simp only [Ct.len] at hs); revert hs; intro _; conv => whnf)) | (refine splitB (fun _ => Nx.mk ?_) (fun _ => Nx.mk ?_) <;> conv => whnf) | (refine idxNat (by (first | exact trivial | assumption | omega | (simp only [inK, lenR] at *; omega) | (simp; done) | fail)) (Nx.mk ?_); conv => whnf) | (refine idxPred (by omega) (by (first | exact trivial | assumption | omega | (simp only [inK, lenR] at *; omega) | (simp; done) | fail)) (Nx.mk ?_); conv => whnf) | (refine idxSucc (by (first | exact trivial | assumption | omega | (simp only [inK, lenR] at *; omega) | (simp; done) | fail)) (Nx.mk ?_); conv => whnf) | (refine idxTo (by omega) (by (first | exact trivial | assumption | omega | (simp only [inK, lenR] at *; omega) | (simp; done) | fail)) (Nx.mk ?_); conv => whnf) | (refine mkNat (by omega) (by omega) (Nx.mk ?_); conv => whnf) | (refine ar64 (by omega) (Nx.mk ?_); conv => whnf) | (refine ar_in (by (first | exact trivial | assumption | omega | (simp only [inK, lenR] at *; omega) | (simp; done) | fail)) (Nx.mk ?_); conv => whnf) | (refine nilQ (fun _ => Nx.mk ?_) (Nx.mk ?_) <;> conv => whnf) | (refine condN Try.underlying4 (Nx.mk ?_); conv => whnf) | (refine condN (by (first | exact trivial | assumption | omega | (simp only [inK, lenR] at *; omega) | (simp; done) | fail)) (Nx.mk ?_); conv => whnf) | (refine Nx.mk ?_; conv => whnf))
    (all_goals try first | contradiction | (exfalso; omega))
    refine loopI tysOk [nm 11] (fun i : Nat => [(10, .I i), (7, .os (rt (nm 11)))]) (fun i => [(nm 11, some (.row 3 (.ints .i64 (inN (mcL g s t) i))))]) (fun i => i ≤ n) (fun i => n - i) 0 (Nat.zero_le _) ?_ ?_
    · ((try conv => whnf); refine ⟨rfl, by rfl, ?_, ?_⟩ <;> ((repeat' ((try conv => whnf); (first | exact trivial | exact Eq.refl _ | exact Or.inl (Eq.refl _) | refine And.intro ?_ ?_ | exact fun _ _ _ _ => Eq.refl _ | refine cellJ (fun _ _ => ?_) | (refine cellB ?_; (conv => whnf); refine And.intro ?_ ?_) | exact Nat.le_of_ble_eq_true (Eq.refl true) | exact ⟨_, _, Eq.refl _, Eq.refl _⟩ | fail))) <;> (try conv => whnf)))
      all_goals (try rw [inN_zero])
    · intro i hi
      have hil := inN_len (l := mcL g s t) (n := i)
      have ch := sHas_fn (mcL g s t) i (by omega)
      by_cases hlt : i < n
      · (repeat' first | ((with_reducible show ∃ _ : Bool, _); first | (refine ⟨_, [], _, [], _, _, ch, rfl, trivial, ?_, Nx.mk ?_⟩; (focus (((repeat' ((try conv => whnf); (first | exact trivial | exact Eq.refl _ | exact Or.inl (Eq.refl _) | refine And.intro ?_ ?_ | exact fun _ _ _ _ => Eq.refl _ | refine cellJ (fun _ _ => ?_) | (refine cellB ?_; (conv => whnf); refine And.intro ?_ ?_) | exact Nat.le_of_ble_eq_true (Eq.refl true) | exact ⟨_, _, Eq.refl _, Eq.refl _⟩ | fail))) <;> (try conv => whnf)); done)); conv => whnf))  | (refine splitD (fun hs => Nx.mk ?_) (fun hs => Nx.mk ?_) <;> ((try simp only [Ct.len] at hs); revert hs; intro _; conv => whnf)) | (refine splitB (fun _ => Nx.mk ?_) (fun _ => Nx.mk ?_) <;> conv => whnf) | (refine idxNat (by (first | exact trivial | assumption | omega | (simp only [inK, lenR] at *; omega) | (simp; done) | fail)) (Nx.mk ?_); conv => whnf) | (refine idxPred (by omega) (by (first | exact trivial | assumption | omega | (simp only [inK, lenR] at *; omega) | (simp; done) | fail)) (Nx.mk ?_); conv => whnf) | (refine idxSucc (by (first | exact trivial | assumption | omega | (simp only [inK, lenR] at *; omega) | (simp; done) | fail)) (Nx.mk ?_); conv => whnf) | (refine idxTo (by omega) (by (first | exact trivial | assumption | omega | (simp only [inK, lenR] at *; omega) | (simp; done) | fail)) (Nx.mk ?_); conv => whnf) | (refine mkNat (by omega) (by omega) (Nx.mk ?_); conv => whnf) | (refine ar64 (by omega) (Nx.mk ?_); conv => whnf) | (refine ar_in (by (first | exact trivial | assumption | omega | (simp only [inK, lenR] at *; omega) | (simp; done) | fail)) (Nx.mk ?_); conv => whnf) | (refine nilQ (fun _ => Nx.mk ?_) (Nx.mk ?_) <;> conv => whnf) | (refine condN Try.underlying4 (Nx.mk ?_); conv => whnf) | (refine condN (by (first | exact trivial | assumption | omega | (simp only [inK, lenR] at *; omega) | (simp; done) | fail)) (Nx.mk ?_); conv => whnf) | (refine Nx.mk ?_; conv => whnf))
        (all_goals try first | contradiction | (exfalso; omega))
        all_goals
          refine ⟨i + 1, by omega, by omega, ?_⟩
          ((try conv => whnf); refine ⟨rfl, by rfl, ?_, ?_⟩ <;> ((repeat' ((try conv => whnf); (first | exact trivial | exact Eq.refl _ | exact Or.inl (Eq.refl _) | refine And.intro ?_ ?_ | exact fun _ _ _ _ => Eq.refl _ | refine cellJ (fun _ _ => ?_) | (refine cellB ?_; (conv => whnf); refine And.intro ?_ ?_) | exact Nat.le_of_ble_eq_true (Eq.refl true) | exact ⟨_, _, Eq.refl _, Eq.refl _⟩ | fail))) <;> (try conv => whnf)))
          all_goals first
            | (rw [inN_yes (by assumption)]; done)
            | (rw [inN_no (by assumption)]; done)
      · (repeat' first | (refine splitD (fun hs => Nx.mk ?_) (fun hs => Nx.mk ?_) <;> ((try simp only [Ct.len] at hs); revert hs; intro _; conv => whnf)) | (refine splitB (fun _ => Nx.mk ?_) (fun _ => Nx.mk ?_) <;> conv => whnf) | (refine idxNat (by (first | exact trivial | assumption | omega | (simp only [inK, lenR] at *; omega) | (simp; done) | fail)) (Nx.mk ?_); conv => whnf) | (refine idxPred (by omega) (by (first | exact trivial | assumption | omega | (simp only [inK, lenR] at *; omega) | (simp; done) | fail)) (Nx.mk ?_); conv => whnf) | (refine idxSucc (by (first | exact trivial | assumption | omega | (simp only [inK, lenR] at *; omega) | (simp; done) | fail)) (Nx.mk ?_); conv => whnf) | (refine idxTo (by omega) (by (first | exact trivial | assumption | omega | (simp only [inK, lenR] at *; omega) | (simp; done) | fail)) (Nx.mk ?_); conv => whnf) | (refine mkNat (by omega) (by omega) (Nx.mk ?_); conv => whnf) | (refine ar64 (by omega) (Nx.mk ?_); conv => whnf) | (refine ar_in (by (first | exact trivial | assumption | omega | (simp only [inK, lenR] at *; omega) | (simp; done) | fail)) (Nx.mk ?_); conv => whnf) | (refine nilQ (fun _ => Nx.mk ?_) (Nx.mk ?_) <;> conv => whnf) | (refine condN Try.underlying4 (Nx.mk ?_); conv => whnf) | (refine condN (by (first | exact trivial | assumption | omega | (simp only [inK, lenR] at *; omega) | (simp; done) | fail)) (Nx.mk ?_); conv => whnf) | (refine Nx.mk ?_; conv => whnf))
        (all_goals try first | contradiction | (exfalso; omega))
        obtain rfl : i = n := by omega
        refine ⟨[(16, nm 11)], rfl, ?_, ?_, ?_, fun _ => ?_⟩
        · ((try conv => whnf); refine ⟨rfl, by rfl, ?_, ?_⟩ <;> ((repeat' ((try conv => whnf); (first | exact trivial | exact Eq.refl _ | exact Or.inl (Eq.refl _) | refine And.intro ?_ ?_ | exact fun _ _ _ _ => Eq.refl _ | refine cellJ (fun _ _ => ?_) | (refine cellB ?_; (conv => whnf); refine And.intro ?_ ?_) | exact Nat.le_of_ble_eq_true (Eq.refl true) | exact ⟨_, _, Eq.refl _, Eq.refl _⟩ | fail))) <;> (try conv => whnf)))
          exact e9
        all_goals ((repeat' ((try conv => whnf); (first | exact trivial | exact Eq.refl _ | exact Or.inl (Eq.refl _) | refine And.intro ?_ ?_ | exact fun _ _ _ _ => Eq.refl _ | refine cellJ (fun _ _ => ?_) | (refine cellB ?_; (conv => whnf); refine And.intro ?_ ?_) | exact Nat.le_of_ble_eq_true (Eq.refl true) | exact ⟨_, _, Eq.refl _, Eq.refl _⟩ | fail))) <;> (try conv => whnf))
  | false =>
    rw [mcS_no hq]
    (repeat' first | ((with_reducible show ∃ _ : Bool, _); first | (refine ⟨_, [], _, [], _, _, sQuest_fn g s t h, rfl, trivial, ?_, Nx.mk ?_⟩; (focus (((repeat' ((try conv => whnf); (first | exact trivial | exact Eq.refl _ | exact Or.inl (Eq.refl _) | refine And.intro ?_ ?_ | exact fun _ _ _ _ => Eq.refl _ | refine cellJ (fun _ _ => ?_) | (refine cellB ?_; (conv => whnf); refine And.intro ?_ ?_) | exact Nat.le_of_ble_eq_true (Eq.refl true) | exact ⟨_, _, Eq.refl _, Eq.refl _⟩ | fail))) <;> (try conv => whnf)); done)); conv => whnf))  | (refine splitD (fun hs => Nx.mk ?_) (fun hs => Nx.mk ?_) <;> ((try simp only [Ct.len] at hs); revert hs; intro _; conv => whnf)) | (refine splitB (fun _ => Nx.mk ?_) (fun _ => Nx.mk ?_) <;> conv => whnf) | (refine idxNat (by (first | exact trivial | assumption | omega | (simp only [inK, lenR] at *; omega) | (simp; done) | fail)) (Nx.mk ?_); conv => whnf) | (refine idxPred (by omega) (by (first | exact trivial | assumption | omega | (simp only [inK, lenR] at *; omega) | (simp; done) | fail)) (Nx.mk ?_); conv => whnf) | (refine idxSucc (by (first | exact trivial | assumption | omega | (simp only [inK, lenR] at *; omega) | (simp; done) | fail)) (Nx.mk ?_); conv => whnf) | (refine idxTo (by omega) (by (first | exact trivial | assumption | omega | (simp only [inK, lenR] at *; omega) | (simp; done) | fail)) (Nx.mk ?_); conv => whnf) | (refine mkNat (by omega) (by omega) (Nx.mk ?_); conv => whnf) | (refine ar64 (by omega) (Nx.mk ?_); conv => whnf) | (refine ar_in (by (first | exact trivial | assumption | omega | (simp only [inK, lenR] at *; omega) | (simp; done) | fail)) (Nx.mk ?_); conv => whnf) | (refine nilQ (fun _ => Nx.mk ?_) (Nx.mk ?_) <;> conv => whnf) | (refine condN Try.underlying4 (Nx.mk ?_); conv => whnf) | (refine condN (by (first | exact trivial | assumption | omega | (simp only [inK, lenR] at *; omega) | (simp; done) | fail)) (Nx.mk ?_); conv => whnf) | (refine Nx.mk ?_; conv => whnf))
    · rename_i h1; rw [hq] at h1; cases h1
    · refine ⟨[(16, nm 11)], rfl, ?_, ?_, ?_, fun _ => ?_⟩
      · ((try conv => whnf); refine ⟨rfl, by rfl, ?_, ?_⟩ <;> ((repeat' ((try conv => whnf); (first | exact trivial | exact Eq.refl _ | exact Or.inl (Eq.refl _) | refine And.intro ?_ ?_ | exact fun _ _ _ _ => Eq.refl _ | refine cellJ (fun _ _ => ?_) | (refine cellB ?_; (conv => whnf); refine And.intro ?_ ?_) | exact Nat.le_of_ble_eq_true (Eq.refl true) | exact ⟨_, _, Eq.refl _, Eq.refl _⟩ | fail))) <;> (try conv => whnf)))
      all_goals ((repeat' ((try conv => whnf); (first | exact trivial | exact Eq.refl _ | exact Or.inl (Eq.refl _) | refine And.intro ?_ ?_ | exact fun _ _ _ _ => Eq.refl _ | refine cellJ (fun _ _ => ?_) | (refine cellB ?_; (conv => whnf); refine And.intro ?_ ?_) | exact Nat.le_of_ble_eq_true (Eq.refl true) | exact ⟨_, _, Eq.refl _, Eq.refl _⟩ | fail))) <;> (try conv => whnf))
end Go.Proofs.Ytmnbpamaiboghaa
