/-
  Groups that are drawn: members join and leave.
-/
import Derived.Test.YtmnbpamaiboghaaSgGn
import Derived.Test.YtmnbpamaiboghaaSgGx
import Derived.Test.YtmnbpamaiboghaaSgDg
import Derived.Test.YtmnbpamaiboghaaSgFh
namespace Go.Proofs.Ytmnbpamaiboghaa
set_option linter.unusedVariables false
set_option linter.unusedSimpArgs false
set_option maxRecDepth 100000
set_option maxHeartbeats 4000000
attribute [local irreducible] Fn
attribute [local irreducible] cx cu1 cBelow khash kk
theorem grp_at {g : Group_T} (h : GrpOk g) : ∀ i : Nat, i < g.2.2.1.length → (i : Int) ≤ g.2.2.1.getD i 0
  | 0, hi => (h.mem 0 hi).1
  | i + 1, hi => by
    have := grp_at h i (by omega)
    have h2 := (h.mem (i + 1) hi).2.2 (by omega)
    have e : i + 1 - 1 = i := by omega
    rw [e] at h2
    omega
theorem grp_len {g : Group_T} (h : GrpOk g) : g.2.2.1.length ≤ 8 := by
  by_cases h0 : g.2.2.1.length ≤ 8
  · exact h0
  · have := grp_at h 8 (by omega)
    have := (h.mem 8 (by omega)).2.1
    omega
theorem sCopyG_fn (g : Group_T) (h : g.2.2.1.length ≤ 1048576) : Fn Try.prog 173 true (.cons (.agg (Group_R g)) .nil) [] (.agg (.cons (.I g.1) (.cons (.I g.2.1) (.cons (.os (rt 16)) .nil)))) [(16, .row 3 (.ints .i64 g.2.2.1))] := by
  (refine Fn_of tysOk Try.func173 rfl rfl (by simp [AV.len, Try.f173]) ⟨?_⟩; conv => whnf)
  (repeat' first | (refine splitD (fun hs => Nx.mk ?_) (fun hs => Nx.mk ?_) <;> ((try simp only [Ct.len] at hs); revert hs; intro _; conv => whnf)) | (refine splitB (fun _ => Nx.mk ?_) (fun _ => Nx.mk ?_) <;> conv => whnf) | (refine idxNat (by (first | exact trivial | assumption | omega | (simp only [inK, lenR] at *; omega) | (simp; done) | fail)) (Nx.mk ?_); conv => whnf) | (refine idxPred (by omega) (by (first | exact trivial | assumption | omega | (simp only [inK, lenR] at *; omega) | (simp; done) | fail)) (Nx.mk ?_); conv => whnf) | (refine idxSucc (by (first | exact trivial | assumption | omega | (simp only [inK, lenR] at *; omega) | (simp; done) | fail)) (Nx.mk ?_); conv => whnf) | (refine idxTo (by omega) (by (first | exact trivial | assumption | omega | (simp only [inK, lenR] at *; omega) | (simp; done) | fail)) (Nx.mk ?_); conv => whnf) | (refine mkNat (by omega) (by omega) (Nx.mk ?_); conv => whnf) | (refine ar64 (by omega) (Nx.mk ?_); conv => whnf) | (refine ar_in (by (first | exact trivial | assumption | omega | (simp only [inK, lenR] at *; omega) | (simp; done) | fail)) (Nx.mk ?_); conv => whnf) | (refine nilQ (fun _ => Nx.mk ?_) (Nx.mk ?_) <;> conv => whnf) | (refine condN Try.underlying4 (Nx.mk ?_); conv => whnf) | (refine condN (by (first | exact trivial | assumption | omega | (simp only [inK, lenR] at *; omega) | (simp; done) | fail)) (Nx.mk ?_); conv => whnf) | (refine Nx.mk ?_; conv => whnf))
  refine ⟨[(16, nm 5)], rfl, ?_, ?_, ?_, fun _ => ?_⟩
  · ((try conv => whnf); refine ⟨rfl, by rfl, ?_, ?_⟩ <;> ((repeat' ((try conv => whnf); (first | exact trivial | exact Eq.refl _ | exact Or.inl (Eq.refl _) | refine And.intro ?_ ?_ | exact fun _ _ _ _ => Eq.refl _ | refine cellJ (fun _ _ => ?_) | (refine cellB ?_; (conv => whnf); refine And.intro ?_ ?_) | exact Nat.le_of_ble_eq_true (Eq.refl true) | exact ⟨_, _, Eq.refl _, Eq.refl _⟩ | fail))) <;> (try conv => whnf)))
  all_goals ((repeat' ((try conv => whnf); (first | exact trivial | exact Eq.refl _ | exact Or.inl (Eq.refl _) | refine And.intro ?_ ?_ | exact fun _ _ _ _ => Eq.refl _ | refine cellJ (fun _ _ => ?_) | (refine cellB ?_; (conv => whnf); refine And.intro ?_ ?_) | exact Nat.le_of_ble_eq_true (Eq.refl true) | exact ⟨_, _, Eq.refl _, Eq.refl _⟩ | fail))) <;> (try conv => whnf))
/-- Where a member belongs; the members with it. -/
def joinK (x : Int) : List Int → Nat
  | [] => 0
  | a :: l => if a < x then joinK x l + 1 else 0
theorem joinK_lt {x : Int} : ∀ {l : List Int} {k : Nat}, k < joinK x l → k < l.length ∧ l.getD k 0 < x
  | [], k, h => absurd h (Nat.not_lt_zero k)
  | a :: l, k, h => by
    unfold joinK at h
    split at h
    · rename_i ha
      cases k with
      | zero => exact ⟨Nat.succ_pos _, ha⟩
      | succ k =>
        obtain ⟨t1, t2⟩ := joinK_lt (x := x) (l := l) (k := k) (by omega)
        exact ⟨Nat.succ_lt_succ t1, by simpa using t2⟩
    · exact absurd h (Nat.not_lt_zero k)
theorem joinK_at {x : Int} : ∀ {l : List Int}, joinK x l ≤ l.length ∧ (joinK x l < l.length → ¬ l.getD (joinK x l) 0 < x)
  | [] => ⟨Nat.le_refl _, fun h => absurd h (Nat.not_lt_zero _)⟩
  | a :: l => by
    obtain ⟨h1, h2⟩ := joinK_at (x := x) (l := l)
    unfold joinK
    split
    · refine ⟨by simp; omega, fun h => ?_⟩
      have := h2 (by simp at h; omega)
      simpa using this
    · rename_i ha
      exact ⟨Nat.zero_le _, fun _ => ha⟩
def joinL (l : List Int) (x : Int) : List Int := [] ++ (l.take (joinK x l)).drop 0 ++ [x] ++ (l.take l.length).drop (joinK x l)
def joinO (g : Group_T) (x : Int) : Group_T := (g.1, g.2.1 + 1, joinL g.2.2.1 x, ())
noncomputable def joinG (g : Group_T) (x : Int) : Group_T := if grpB (joinO g x) = true then joinO g x else g
theorem joinL_len {l : List Int} {x : Int} : (joinL l x).length = l.length + 1 := by
  have := (joinK_at (x := x) (l := l)).1
  simp [joinL]
  omega
theorem joinG_y {g : Group_T} {x : Int} (h : grpB (joinO g x) = true) : joinG g x = joinO g x := if_pos h
theorem joinG_n {g : Group_T} {x : Int} (h : grpB (joinO g x) = false) : joinG g x = g := if_neg (by simp [h])
theorem joinG_ok {g : Group_T} {x : Int} (h : GrpOk g) : GrpOk (joinG g x) := by
  cases hb : grpB (joinO g x) with
  | true => rw [joinG_y hb]; exact grpB_iff.1 hb
  | false => rw [joinG_n hb]; exact h
/-- The members without one. -/
def leaveL (l : List Int) (x : Int) (n : Nat) : List Int := (l.take n).filter fun y => decide (y ≠ x)
theorem leaveL_z {l : List Int} {x : Int} : leaveL l x 0 = [] := rfl
theorem leaveL_y {l : List Int} {x : Int} {i : Nat} (hi : i < l.length) (h : l.getD i 0 ≠ x) : leaveL l x (i + 1) = leaveL l x i ++ [l.getD i 0] := by
  unfold leaveL
  have e : l.take (i + 1) = l.take i ++ [l.getD i 0] := by
    rw [List.take_add_one, List.getElem?_eq_getElem hi, List.getD_eq_getElem?_getD, List.getElem?_eq_getElem hi]; rfl
  rw [e, List.filter_append]
  simp [h]
  simpa [List.getD_eq_getElem?_getD] using h
theorem leaveL_n {l : List Int} {x : Int} {i : Nat} (hi : i < l.length) (h : ¬ l.getD i 0 ≠ x) : leaveL l x (i + 1) = leaveL l x i := by
  unfold leaveL
  have e : l.take (i + 1) = l.take i ++ [l.getD i 0] := by
    rw [List.take_add_one, List.getElem?_eq_getElem hi, List.getD_eq_getElem?_getD, List.getElem?_eq_getElem hi]; rfl
  have h : l.getD i 0 = x := Classical.byContradiction h
  rw [e, List.filter_append, h]
  simp
theorem leaveL_len {l : List Int} {x : Int} {i : Nat} : (leaveL l x i).length ≤ l.length := by
  unfold leaveL
  have h1 := List.length_filter_le (fun y => decide (y ≠ x)) (l.take i)
  have h2 := List.length_take_le i l
  have h3 : (l.take i).length ≤ l.length := by simp; omega
  omega
def leaveO (g : Group_T) (x : Int) : Group_T := (g.1, g.2.1 + 1, leaveL g.2.2.1 x g.2.2.1.length, ())
noncomputable def leaveB (g : Group_T) (x : Int) : Bool := grpB (leaveO g x) && decide ((leaveO g x).2.2.1.length ≠ g.2.2.1.length)
noncomputable def leaveG (g : Group_T) (x : Int) : Group_T := if leaveB g x = true then leaveO g x else g
theorem leaveG_y {g : Group_T} {x : Int} (h : leaveB g x = true) : leaveG g x = leaveO g x := if_pos h
theorem leaveG_n {g : Group_T} {x : Int} (h : leaveB g x = false) : leaveG g x = g := if_neg (by simp [h])
theorem leaveG_ok {g : Group_T} {x : Int} (h : GrpOk g) : GrpOk (leaveG g x) := by
  cases hb : leaveB g x with
  | true => rw [leaveG_y hb]; unfold leaveB at hb; exact grpB_iff.1 (Bool.and_eq_true _ _ ▸ hb).1
  | false => rw [leaveG_n hb]; exact h
theorem sJoin_fn (g : Group_T) (x : Int) (h : GrpOk g) : Fn Try.prog 151 true (.cons (.agg (Group_R g)) (.cons (.I x) .nil)) [] (.tup (.cons (.agg (.cons (.I (joinG g x).1) (.cons (.I (joinG g x).2.1) (.cons (.os (rt 16)) .nil)))) (.cons (.b (grpB (joinO g x))) .nil))) [(16, .row 3 (.ints .i64 (joinG g x).2.2.1))] := by
  have hl := grp_len h
  have hl2 := joinL_len (l := g.2.2.1) (x := x)
  have c1 := (sGrp_fn g (show g.2.2.1.length ≤ _ by omega)).res (r' := .b true) (by rw [grpB_true h])
  have c2 := sGrp_fn (joinO g x) (show (joinL g.2.2.1 x).length ≤ _ by omega)
  obtain ⟨k1, k2⟩ := joinK_at (x := x) (l := g.2.2.1)
  have he0 := h.ep0
  have he1 := h.ep1
  have c3 := sCopyG_fn g (by omega)
  cases hb : grpB (joinO g x) with
  | false =>
    rw [hb] at c2
    rw [joinG_n hb]
    unfold joinO joinL at c2
    have hK : ∀ k, k < joinK x g.2.2.1 → k < g.2.2.1.length ∧ g.2.2.1.getD k 0 < x := fun k hk => joinK_lt hk
    generalize joinK x g.2.2.1 = K at *
    (refine Fn_of tysOk Try.func151 rfl rfl (by simp [AV.len, Try.f151]) ⟨?_⟩; conv => whnf)
    (repeat' first | (refine splitD (fun hs => Nx.mk ?_) (fun hs => Nx.mk ?_) <;> ((try simp only [Ct.len] at hs); revert hs; intro _; conv => whnf)) | (refine splitB (fun _ => Nx.mk ?_) (fun _ => Nx.mk ?_) <;> conv => whnf) | (refine idxNat (by (first | exact trivial | assumption | omega | (simp only [inK, lenR] at *; omega) | (simp; done) | fail)) (Nx.mk ?_); conv => whnf) | (refine idxPred (by omega) (by (first | exact trivial | assumption | omega | (simp only [inK, lenR] at *; omega) | (simp; done) | fail)) (Nx.mk ?_); conv => whnf) | (refine idxSucc (by (first | exact trivial | assumption | omega | (simp only [inK, lenR] at *; omega) | (simp; done) | fail)) (Nx.mk ?_); conv => whnf) | (refine idxTo (by omega) (by (first | exact trivial | assumption | omega | (simp only [inK, lenR] at *; omega) | (simp; done) | fail)) (Nx.mk ?_); conv => whnf) | (refine mkNat (by omega) (by omega) (Nx.mk ?_); conv => whnf) | (refine ar64 (by omega) (Nx.mk ?_); conv => whnf) | (refine ar_in (by (first | exact trivial | assumption | omega | (simp only [inK, lenR] at *; omega) | (simp; done) | fail)) (Nx.mk ?_); conv => whnf) | (refine nilQ (fun _ => Nx.mk ?_) (Nx.mk ?_) <;> conv => whnf) | (refine condN Try.underlying4 (Nx.mk ?_); conv => whnf) | (refine condN (by (first | exact trivial | assumption | omega | (simp only [inK, lenR] at *; omega) | (simp; done) | fail)) (Nx.mk ?_); conv => whnf) | (refine Nx.mk ?_; conv => whnf))
    refine loopI tysOk [] (fun k : Nat => [(6, .I k)]) (fun k => []) (fun k => k ≤ K) (fun k => K - k) 0 (Nat.zero_le _) ?_ ?_
    · ((try conv => whnf); refine ⟨rfl, by rfl, ?_, ?_⟩ <;> ((repeat' ((try conv => whnf); (first | exact trivial | exact Eq.refl _ | exact Or.inl (Eq.refl _) | refine And.intro ?_ ?_ | exact fun _ _ _ _ => Eq.refl _ | refine cellJ (fun _ _ => ?_) | (refine cellB ?_; (conv => whnf); refine And.intro ?_ ?_) | exact Nat.le_of_ble_eq_true (Eq.refl true) | exact ⟨_, _, Eq.refl _, Eq.refl _⟩ | fail))) <;> (try conv => whnf)))
    intro k hk
    by_cases hlt : k < K
    · obtain ⟨a1, a2⟩ := hK k hlt
      (repeat' first | (refine splitD (fun hs => Nx.mk ?_) (fun hs => Nx.mk ?_) <;> ((try simp only [Ct.len] at hs); revert hs; intro _; conv => whnf)) | (refine splitB (fun _ => Nx.mk ?_) (fun _ => Nx.mk ?_) <;> conv => whnf) | (refine idxNat (by (first | exact trivial | assumption | omega | (simp only [inK, lenR] at *; omega) | (simp; done) | fail)) (Nx.mk ?_); conv => whnf) | (refine idxPred (by omega) (by (first | exact trivial | assumption | omega | (simp only [inK, lenR] at *; omega) | (simp; done) | fail)) (Nx.mk ?_); conv => whnf) | (refine idxSucc (by (first | exact trivial | assumption | omega | (simp only [inK, lenR] at *; omega) | (simp; done) | fail)) (Nx.mk ?_); conv => whnf) | (refine idxTo (by omega) (by (first | exact trivial | assumption | omega | (simp only [inK, lenR] at *; omega) | (simp; done) | fail)) (Nx.mk ?_); conv => whnf) | (refine mkNat (by omega) (by omega) (Nx.mk ?_); conv => whnf) | (refine ar64 (by omega) (Nx.mk ?_); conv => whnf) | (refine ar_in (by (first | exact trivial | assumption | omega | (simp only [inK, lenR] at *; omega) | (simp; done) | fail)) (Nx.mk ?_); conv => whnf) | (refine nilQ (fun _ => Nx.mk ?_) (Nx.mk ?_) <;> conv => whnf) | (refine condN Try.underlying4 (Nx.mk ?_); conv => whnf) | (refine condN (by (first | exact trivial | assumption | omega | (simp only [inK, lenR] at *; omega) | (simp; done) | fail)) (Nx.mk ?_); conv => whnf) | (refine Nx.mk ?_; conv => whnf))
      (all_goals try first | contradiction | (exfalso; omega))
      all_goals
        refine ⟨k + 1, by omega, by omega, ?_⟩
        ((try conv => whnf); refine ⟨rfl, by rfl, ?_, ?_⟩ <;> ((repeat' ((try conv => whnf); (first | exact trivial | exact Eq.refl _ | exact Or.inl (Eq.refl _) | refine And.intro ?_ ?_ | exact fun _ _ _ _ => Eq.refl _ | refine cellJ (fun _ _ => ?_) | (refine cellB ?_; (conv => whnf); refine And.intro ?_ ?_) | exact Nat.le_of_ble_eq_true (Eq.refl true) | exact ⟨_, _, Eq.refl _, Eq.refl _⟩ | fail))) <;> (try conv => whnf)))
    · obtain rfl : k = K := by omega
      clear hK hlt hk
      (repeat' first | ((with_reducible show ∃ _ : Bool, _); first | (refine ⟨_, [], _, [], _, _, c1, rfl, trivial, ?_, Nx.mk ?_⟩; (focus (((repeat' ((try conv => whnf); (first | exact trivial | exact Eq.refl _ | exact Or.inl (Eq.refl _) | refine And.intro ?_ ?_ | exact fun _ _ _ _ => Eq.refl _ | refine cellJ (fun _ _ => ?_) | (refine cellB ?_; (conv => whnf); refine And.intro ?_ ?_) | exact Nat.le_of_ble_eq_true (Eq.refl true) | exact ⟨_, _, Eq.refl _, Eq.refl _⟩ | fail))) <;> (try conv => whnf)); done)); conv => whnf) | (refine ⟨_, [], _, [], _, _, c2, rfl, trivial, ?_, Nx.mk ?_⟩; (focus (((repeat' ((try conv => whnf); (first | exact trivial | exact Eq.refl _ | exact Or.inl (Eq.refl _) | refine And.intro ?_ ?_ | exact fun _ _ _ _ => Eq.refl _ | refine cellJ (fun _ _ => ?_) | (refine cellB ?_; (conv => whnf); refine And.intro ?_ ?_) | exact Nat.le_of_ble_eq_true (Eq.refl true) | exact ⟨_, _, Eq.refl _, Eq.refl _⟩ | fail))) <;> (try conv => whnf)); done)); conv => whnf) | (refine ⟨_, [], _, [], _, _, c3, rfl, trivial, ?_, Nx.mk ?_⟩; (focus (((repeat' ((try conv => whnf); (first | exact trivial | exact Eq.refl _ | exact Or.inl (Eq.refl _) | refine And.intro ?_ ?_ | exact fun _ _ _ _ => Eq.refl _ | refine cellJ (fun _ _ => ?_) | (refine cellB ?_; (conv => whnf); refine And.intro ?_ ?_) | exact Nat.le_of_ble_eq_true (Eq.refl true) | exact ⟨_, _, Eq.refl _, Eq.refl _⟩ | fail))) <;> (try conv => whnf)); done)); conv => whnf)) | (((with_reducible show VC _ (.region _ _ true) _ _); refine VC_tree (sf := []) tysOk (by kernel_rfl) (.nd 5 7 (.nd 5 9 (.nd 5 10 (.nd 5 12 (.lf [3, 6, 11, 0, 1, 2, 4, 7, 9, 10, 12, 5, 8, 13, 14, 15]) (.nd 8 12 (.lf [3, 6, 11, 0, 1, 2, 4, 7, 9, 10, 5, 12, 8, 13, 14, 15]) (.lf [3, 6, 11, 0, 1, 2, 4, 7, 9, 10, 5, 8, 12, 13, 14, 15]))) (.nd 8 10 (.nd 8 12 (.lf [3, 6, 11, 0, 1, 2, 4, 7, 9, 5, 10, 12, 8, 13, 14, 15]) (.lf [3, 6, 11, 0, 1, 2, 4, 7, 9, 5, 10, 8, 12, 13, 14, 15])) (.lf [3, 6, 11, 0, 1, 2, 4, 7, 9, 5, 8, 10, 12, 13, 14, 15]))) (.nd 8 9 (.nd 8 10 (.nd 8 12 (.lf [3, 6, 11, 0, 1, 2, 4, 7, 5, 9, 10, 12, 8, 13, 14, 15]) (.lf [3, 6, 11, 0, 1, 2, 4, 7, 5, 9, 10, 8, 12, 13, 14, 15])) (.lf [3, 6, 11, 0, 1, 2, 4, 7, 5, 9, 8, 10, 12, 13, 14, 15])) (.lf [3, 6, 11, 0, 1, 2, 4, 7, 5, 8, 9, 10, 12, 13, 14, 15]))) (.nd 5 9 (.nd 5 10 (.nd 5 12 (.lf [3, 6, 11, 0, 1, 2, 4, 9, 10, 12, 5, 7, 8, 13, 14, 15]) (.nd 8 12 (.lf [3, 6, 11, 0, 1, 2, 4, 9, 10, 5, 7, 12, 8, 13, 14, 15]) (.lf [3, 6, 11, 0, 1, 2, 4, 9, 10, 5, 7, 8, 12, 13, 14, 15]))) (.nd 8 10 (.nd 8 12 (.lf [3, 6, 11, 0, 1, 2, 4, 9, 5, 7, 10, 12, 8, 13, 14, 15]) (.lf [3, 6, 11, 0, 1, 2, 4, 9, 5, 7, 10, 8, 12, 13, 14, 15])) (.lf [3, 6, 11, 0, 1, 2, 4, 9, 5, 7, 8, 10, 12, 13, 14, 15]))) (.nd 8 9 (.nd 8 10 (.nd 8 12 (.lf [3, 6, 11, 0, 1, 2, 4, 5, 7, 9, 10, 12, 8, 13, 14, 15]) (.lf [3, 6, 11, 0, 1, 2, 4, 5, 7, 9, 10, 8, 12, 13, 14, 15])) (.lf [3, 6, 11, 0, 1, 2, 4, 5, 7, 9, 8, 10, 12, 13, 14, 15])) (.lf [3, 6, 11, 0, 1, 2, 4, 5, 7, 8, 9, 10, 12, 13, 14, 15])))) (by kernel_rfl) ?_; with_unfolding_all refine (And.intro (Nx.mk ?_) (And.intro (Nx.mk ?_) (And.intro (Nx.mk ?_) (And.intro (Nx.mk ?_) (And.intro (Nx.mk ?_) (And.intro (Nx.mk ?_) (And.intro (Nx.mk ?_) (And.intro (Nx.mk ?_) (And.intro (Nx.mk ?_) (And.intro (Nx.mk ?_) (And.intro (Nx.mk ?_) (And.intro (Nx.mk ?_) (And.intro (Nx.mk ?_) (And.intro (Nx.mk ?_) (And.intro (Nx.mk ?_) (And.intro (Nx.mk ?_) (And.intro (Nx.mk ?_) (And.intro (Nx.mk ?_) (And.intro (Nx.mk ?_) (And.intro (Nx.mk ?_) True.intro)))))))))))))))))))) <;> conv => whnf)) | ((first | (refine slcTo (by (first | exact trivial | assumption | omega | (simp only [inK, lenR] at *; omega) | (simp; done) | fail)) (Nx.mk ?_); conv => whnf) | (refine slcFrom (by (first | exact trivial | assumption | omega | (simp only [inK, lenR] at *; omega) | (simp; done) | fail)) (Nx.mk ?_); conv => whnf) | (refine slcBoth (by (first | exact trivial | assumption | omega | (simp only [inK, lenR] at *; omega) | (simp; done) | fail)) (by (first | exact trivial | assumption | omega | (simp only [inK, lenR] at *; omega) | (simp; done) | fail)) (Nx.mk ?_); conv => whnf))) | (refine splitD (fun hs => Nx.mk ?_) (fun hs => Nx.mk ?_) <;> ((try simp only [Ct.len] at hs); revert hs; intro _; conv => whnf)) | (refine splitB (fun _ => Nx.mk ?_) (fun _ => Nx.mk ?_) <;> conv => whnf) | (refine idxNat (by (first | exact trivial | assumption | omega | (simp only [inK, lenR] at *; omega) | (simp; done) | fail)) (Nx.mk ?_); conv => whnf) | (refine idxPred (by omega) (by (first | exact trivial | assumption | omega | (simp only [inK, lenR] at *; omega) | (simp; done) | fail)) (Nx.mk ?_); conv => whnf) | (refine idxSucc (by (first | exact trivial | assumption | omega | (simp only [inK, lenR] at *; omega) | (simp; done) | fail)) (Nx.mk ?_); conv => whnf) | (refine idxTo (by omega) (by (first | exact trivial | assumption | omega | (simp only [inK, lenR] at *; omega) | (simp; done) | fail)) (Nx.mk ?_); conv => whnf) | (refine mkNat (by omega) (by omega) (Nx.mk ?_); conv => whnf) | (refine ar64 (by omega) (Nx.mk ?_); conv => whnf) | (refine ar_in (by (first | exact trivial | assumption | omega | (simp only [inK, lenR] at *; omega) | (simp; done) | fail)) (Nx.mk ?_); conv => whnf) | (refine nilQ (fun _ => Nx.mk ?_) (Nx.mk ?_) <;> conv => whnf) | (refine condN Try.underlying4 (Nx.mk ?_); conv => whnf) | (refine condN (by (first | exact trivial | assumption | omega | (simp only [inK, lenR] at *; omega) | (simp; done) | fail)) (Nx.mk ?_); conv => whnf) | (refine Nx.mk ?_; conv => whnf))
      (all_goals try first | contradiction | (exfalso; omega))
      all_goals
        refine ⟨[(16, nm 54)], rfl, ?_, ?_, ?_, fun _ => ?_⟩
        · ((try conv => whnf); refine ⟨rfl, by rfl, ?_, ?_⟩ <;> ((repeat' ((try conv => whnf); (first | exact trivial | exact Eq.refl _ | exact Or.inl (Eq.refl _) | refine And.intro ?_ ?_ | exact fun _ _ _ _ => Eq.refl _ | refine cellJ (fun _ _ => ?_) | (refine cellB ?_; (conv => whnf); refine And.intro ?_ ?_) | exact Nat.le_of_ble_eq_true (Eq.refl true) | exact ⟨_, _, Eq.refl _, Eq.refl _⟩ | fail))) <;> (try conv => whnf)))
        all_goals ((repeat' ((try conv => whnf); (first | exact trivial | exact Eq.refl _ | exact Or.inl (Eq.refl _) | refine And.intro ?_ ?_ | exact fun _ _ _ _ => Eq.refl _ | refine cellJ (fun _ _ => ?_) | (refine cellB ?_; (conv => whnf); refine And.intro ?_ ?_) | exact Nat.le_of_ble_eq_true (Eq.refl true) | exact ⟨_, _, Eq.refl _, Eq.refl _⟩ | fail))) <;> (try conv => whnf))
  | true =>
    rw [hb] at c2
    rw [joinG_y hb]
    unfold joinO joinL at c2 ⊢
    have hK : ∀ k, k < joinK x g.2.2.1 → k < g.2.2.1.length ∧ g.2.2.1.getD k 0 < x := fun k hk => joinK_lt hk
    generalize joinK x g.2.2.1 = K at *
    (refine Fn_of tysOk Try.func151 rfl rfl (by simp [AV.len, Try.f151]) ⟨?_⟩; conv => whnf)
    (repeat' first | (refine splitD (fun hs => Nx.mk ?_) (fun hs => Nx.mk ?_) <;> ((try simp only [Ct.len] at hs); revert hs; intro _; conv => whnf)) | (refine splitB (fun _ => Nx.mk ?_) (fun _ => Nx.mk ?_) <;> conv => whnf) | (refine idxNat (by (first | exact trivial | assumption | omega | (simp only [inK, lenR] at *; omega) | (simp; done) | fail)) (Nx.mk ?_); conv => whnf) | (refine idxPred (by omega) (by (first | exact trivial | assumption | omega | (simp only [inK, lenR] at *; omega) | (simp; done) | fail)) (Nx.mk ?_); conv => whnf) | (refine idxSucc (by (first | exact trivial | assumption | omega | (simp only [inK, lenR] at *; omega) | (simp; done) | fail)) (Nx.mk ?_); conv => whnf) | (refine idxTo (by omega) (by (first | exact trivial | assumption | omega | (simp only [inK, lenR] at *; omega) | (simp; done) | fail)) (Nx.mk ?_); conv => whnf) | (refine mkNat (by omega) (by omega) (Nx.mk ?_); conv => whnf) | (refine ar64 (by omega) (Nx.mk ?_); conv => whnf) | (refine ar_in (by (first | exact trivial | assumption | omega | (simp only [inK, lenR] at *; omega) | (simp; done) | fail)) (Nx.mk ?_); conv => whnf) | (refine nilQ (fun _ => Nx.mk ?_) (Nx.mk ?_) <;> conv => whnf) | (refine condN Try.underlying4 (Nx.mk ?_); conv => whnf) | (refine condN (by (first | exact trivial | assumption | omega | (simp only [inK, lenR] at *; omega) | (simp; done) | fail)) (Nx.mk ?_); conv => whnf) | (refine Nx.mk ?_; conv => whnf))
    refine loopI tysOk [] (fun k : Nat => [(6, .I k)]) (fun k => []) (fun k => k ≤ K) (fun k => K - k) 0 (Nat.zero_le _) ?_ ?_
    · ((try conv => whnf); refine ⟨rfl, by rfl, ?_, ?_⟩ <;> ((repeat' ((try conv => whnf); (first | exact trivial | exact Eq.refl _ | exact Or.inl (Eq.refl _) | refine And.intro ?_ ?_ | exact fun _ _ _ _ => Eq.refl _ | refine cellJ (fun _ _ => ?_) | (refine cellB ?_; (conv => whnf); refine And.intro ?_ ?_) | exact Nat.le_of_ble_eq_true (Eq.refl true) | exact ⟨_, _, Eq.refl _, Eq.refl _⟩ | fail))) <;> (try conv => whnf)))
    intro k hk
    by_cases hlt : k < K
    · obtain ⟨a1, a2⟩ := hK k hlt
      (repeat' first | (refine splitD (fun hs => Nx.mk ?_) (fun hs => Nx.mk ?_) <;> ((try simp only [Ct.len] at hs); revert hs; intro _; conv => whnf)) | (refine splitB (fun _ => Nx.mk ?_) (fun _ => Nx.mk ?_) <;> conv => whnf) | (refine idxNat (by (first | exact trivial | assumption | omega | (simp only [inK, lenR] at *; omega) | (simp; done) | fail)) (Nx.mk ?_); conv => whnf) | (refine idxPred (by omega) (by (first | exact trivial | assumption | omega | (simp only [inK, lenR] at *; omega) | (simp; done) | fail)) (Nx.mk ?_); conv => whnf) | (refine idxSucc (by (first | exact trivial | assumption | omega | (simp only [inK, lenR] at *; omega) | (simp; done) | fail)) (Nx.mk ?_); conv => whnf) | (refine idxTo (by omega) (by (first | exact trivial | assumption | omega | (simp only [inK, lenR] at *; omega) | (simp; done) | fail)) (Nx.mk ?_); conv => whnf) | (refine mkNat (by omega) (by omega) (Nx.mk ?_); conv => whnf) | (refine ar64 (by omega) (Nx.mk ?_); conv => whnf) | (refine ar_in (by (first | exact trivial | assumption | omega | (simp only [inK, lenR] at *; omega) | (simp; done) | fail)) (Nx.mk ?_); conv => whnf) | (refine nilQ (fun _ => Nx.mk ?_) (Nx.mk ?_) <;> conv => whnf) | (refine condN Try.underlying4 (Nx.mk ?_); conv => whnf) | (refine condN (by (first | exact trivial | assumption | omega | (simp only [inK, lenR] at *; omega) | (simp; done) | fail)) (Nx.mk ?_); conv => whnf) | (refine Nx.mk ?_; conv => whnf))
      (all_goals try first | contradiction | (exfalso; omega))
      all_goals
        refine ⟨k + 1, by omega, by omega, ?_⟩
        ((try conv => whnf); refine ⟨rfl, by rfl, ?_, ?_⟩ <;> ((repeat' ((try conv => whnf); (first | exact trivial | exact Eq.refl _ | exact Or.inl (Eq.refl _) | refine And.intro ?_ ?_ | exact fun _ _ _ _ => Eq.refl _ | refine cellJ (fun _ _ => ?_) | (refine cellB ?_; (conv => whnf); refine And.intro ?_ ?_) | exact Nat.le_of_ble_eq_true (Eq.refl true) | exact ⟨_, _, Eq.refl _, Eq.refl _⟩ | fail))) <;> (try conv => whnf)))
    · obtain rfl : k = K := by omega
      clear hK hlt hk
      (repeat' first | ((with_reducible show ∃ _ : Bool, _); first | (refine ⟨_, [], _, [], _, _, c1, rfl, trivial, ?_, Nx.mk ?_⟩; (focus (((repeat' ((try conv => whnf); (first | exact trivial | exact Eq.refl _ | exact Or.inl (Eq.refl _) | refine And.intro ?_ ?_ | exact fun _ _ _ _ => Eq.refl _ | refine cellJ (fun _ _ => ?_) | (refine cellB ?_; (conv => whnf); refine And.intro ?_ ?_) | exact Nat.le_of_ble_eq_true (Eq.refl true) | exact ⟨_, _, Eq.refl _, Eq.refl _⟩ | fail))) <;> (try conv => whnf)); done)); conv => whnf) | (refine ⟨_, [], _, [], _, _, c2, rfl, trivial, ?_, Nx.mk ?_⟩; (focus (((repeat' ((try conv => whnf); (first | exact trivial | exact Eq.refl _ | exact Or.inl (Eq.refl _) | refine And.intro ?_ ?_ | exact fun _ _ _ _ => Eq.refl _ | refine cellJ (fun _ _ => ?_) | (refine cellB ?_; (conv => whnf); refine And.intro ?_ ?_) | exact Nat.le_of_ble_eq_true (Eq.refl true) | exact ⟨_, _, Eq.refl _, Eq.refl _⟩ | fail))) <;> (try conv => whnf)); done)); conv => whnf) | (refine ⟨_, [], _, [], _, _, c3, rfl, trivial, ?_, Nx.mk ?_⟩; (focus (((repeat' ((try conv => whnf); (first | exact trivial | exact Eq.refl _ | exact Or.inl (Eq.refl _) | refine And.intro ?_ ?_ | exact fun _ _ _ _ => Eq.refl _ | refine cellJ (fun _ _ => ?_) | (refine cellB ?_; (conv => whnf); refine And.intro ?_ ?_) | exact Nat.le_of_ble_eq_true (Eq.refl true) | exact ⟨_, _, Eq.refl _, Eq.refl _⟩ | fail))) <;> (try conv => whnf)); done)); conv => whnf)) | (((with_reducible show VC _ (.region _ _ true) _ _); refine VC_tree (sf := []) tysOk (by kernel_rfl) (.nd 5 7 (.nd 5 9 (.nd 5 10 (.nd 5 12 (.lf [3, 6, 11, 0, 1, 2, 4, 7, 9, 10, 12, 5, 8, 13, 14, 15]) (.nd 8 12 (.lf [3, 6, 11, 0, 1, 2, 4, 7, 9, 10, 5, 12, 8, 13, 14, 15]) (.lf [3, 6, 11, 0, 1, 2, 4, 7, 9, 10, 5, 8, 12, 13, 14, 15]))) (.nd 8 10 (.nd 8 12 (.lf [3, 6, 11, 0, 1, 2, 4, 7, 9, 5, 10, 12, 8, 13, 14, 15]) (.lf [3, 6, 11, 0, 1, 2, 4, 7, 9, 5, 10, 8, 12, 13, 14, 15])) (.lf [3, 6, 11, 0, 1, 2, 4, 7, 9, 5, 8, 10, 12, 13, 14, 15]))) (.nd 8 9 (.nd 8 10 (.nd 8 12 (.lf [3, 6, 11, 0, 1, 2, 4, 7, 5, 9, 10, 12, 8, 13, 14, 15]) (.lf [3, 6, 11, 0, 1, 2, 4, 7, 5, 9, 10, 8, 12, 13, 14, 15])) (.lf [3, 6, 11, 0, 1, 2, 4, 7, 5, 9, 8, 10, 12, 13, 14, 15])) (.lf [3, 6, 11, 0, 1, 2, 4, 7, 5, 8, 9, 10, 12, 13, 14, 15]))) (.nd 5 9 (.nd 5 10 (.nd 5 12 (.lf [3, 6, 11, 0, 1, 2, 4, 9, 10, 12, 5, 7, 8, 13, 14, 15]) (.nd 8 12 (.lf [3, 6, 11, 0, 1, 2, 4, 9, 10, 5, 7, 12, 8, 13, 14, 15]) (.lf [3, 6, 11, 0, 1, 2, 4, 9, 10, 5, 7, 8, 12, 13, 14, 15]))) (.nd 8 10 (.nd 8 12 (.lf [3, 6, 11, 0, 1, 2, 4, 9, 5, 7, 10, 12, 8, 13, 14, 15]) (.lf [3, 6, 11, 0, 1, 2, 4, 9, 5, 7, 10, 8, 12, 13, 14, 15])) (.lf [3, 6, 11, 0, 1, 2, 4, 9, 5, 7, 8, 10, 12, 13, 14, 15]))) (.nd 8 9 (.nd 8 10 (.nd 8 12 (.lf [3, 6, 11, 0, 1, 2, 4, 5, 7, 9, 10, 12, 8, 13, 14, 15]) (.lf [3, 6, 11, 0, 1, 2, 4, 5, 7, 9, 10, 8, 12, 13, 14, 15])) (.lf [3, 6, 11, 0, 1, 2, 4, 5, 7, 9, 8, 10, 12, 13, 14, 15])) (.lf [3, 6, 11, 0, 1, 2, 4, 5, 7, 8, 9, 10, 12, 13, 14, 15])))) (by kernel_rfl) ?_; with_unfolding_all refine (And.intro (Nx.mk ?_) (And.intro (Nx.mk ?_) (And.intro (Nx.mk ?_) (And.intro (Nx.mk ?_) (And.intro (Nx.mk ?_) (And.intro (Nx.mk ?_) (And.intro (Nx.mk ?_) (And.intro (Nx.mk ?_) (And.intro (Nx.mk ?_) (And.intro (Nx.mk ?_) (And.intro (Nx.mk ?_) (And.intro (Nx.mk ?_) (And.intro (Nx.mk ?_) (And.intro (Nx.mk ?_) (And.intro (Nx.mk ?_) (And.intro (Nx.mk ?_) (And.intro (Nx.mk ?_) (And.intro (Nx.mk ?_) (And.intro (Nx.mk ?_) (And.intro (Nx.mk ?_) True.intro)))))))))))))))))))) <;> conv => whnf)) | ((first | (refine slcTo (by (first | exact trivial | assumption | omega | (simp only [inK, lenR] at *; omega) | (simp; done) | fail)) (Nx.mk ?_); conv => whnf) | (refine slcFrom (by (first | exact trivial | assumption | omega | (simp only [inK, lenR] at *; omega) | (simp; done) | fail)) (Nx.mk ?_); conv => whnf) | (refine slcBoth (by (first | exact trivial | assumption | omega | (simp only [inK, lenR] at *; omega) | (simp; done) | fail)) (by (first | exact trivial | assumption | omega | (simp only [inK, lenR] at *; omega) | (simp; done) | fail)) (Nx.mk ?_); conv => whnf))) | (refine splitD (fun hs => Nx.mk ?_) (fun hs => Nx.mk ?_) <;> ((try simp only [Ct.len] at hs); revert hs; intro _; conv => whnf)) | (refine splitB (fun _ => Nx.mk ?_) (fun _ => Nx.mk ?_) <;> conv => whnf) | (refine idxNat (by (first | exact trivial | assumption | omega | (simp only [inK, lenR] at *; omega) | (simp; done) | fail)) (Nx.mk ?_); conv => whnf) | (refine idxPred (by omega) (by (first | exact trivial | assumption | omega | (simp only [inK, lenR] at *; omega) | (simp; done) | fail)) (Nx.mk ?_); conv => whnf) | (refine idxSucc (by (first | exact trivial | assumption | omega | (simp only [inK, lenR] at *; omega) | (simp; done) | fail)) (Nx.mk ?_); conv => whnf) | (refine idxTo (by omega) (by (first | exact trivial | assumption | omega | (simp only [inK, lenR] at *; omega) | (simp; done) | fail)) (Nx.mk ?_); conv => whnf) | (refine mkNat (by omega) (by omega) (Nx.mk ?_); conv => whnf) | (refine ar64 (by omega) (Nx.mk ?_); conv => whnf) | (refine ar_in (by (first | exact trivial | assumption | omega | (simp only [inK, lenR] at *; omega) | (simp; done) | fail)) (Nx.mk ?_); conv => whnf) | (refine nilQ (fun _ => Nx.mk ?_) (Nx.mk ?_) <;> conv => whnf) | (refine condN Try.underlying4 (Nx.mk ?_); conv => whnf) | (refine condN (by (first | exact trivial | assumption | omega | (simp only [inK, lenR] at *; omega) | (simp; done) | fail)) (Nx.mk ?_); conv => whnf) | (refine Nx.mk ?_; conv => whnf))
      (all_goals try first | contradiction | (exfalso; omega))
      all_goals
        refine ⟨[(16, nm 30)], rfl, ?_, ?_, ?_, fun _ => ?_⟩
        · ((try conv => whnf); refine ⟨rfl, by rfl, ?_, ?_⟩ <;> ((repeat' ((try conv => whnf); (first | exact trivial | exact Eq.refl _ | exact Or.inl (Eq.refl _) | refine And.intro ?_ ?_ | exact fun _ _ _ _ => Eq.refl _ | refine cellJ (fun _ _ => ?_) | (refine cellB ?_; (conv => whnf); refine And.intro ?_ ?_) | exact Nat.le_of_ble_eq_true (Eq.refl true) | exact ⟨_, _, Eq.refl _, Eq.refl _⟩ | fail))) <;> (try conv => whnf)))
        all_goals ((repeat' ((try conv => whnf); (first | exact trivial | exact Eq.refl _ | exact Or.inl (Eq.refl _) | refine And.intro ?_ ?_ | exact fun _ _ _ _ => Eq.refl _ | refine cellJ (fun _ _ => ?_) | (refine cellB ?_; (conv => whnf); refine And.intro ?_ ?_) | exact Nat.le_of_ble_eq_true (Eq.refl true) | exact ⟨_, _, Eq.refl _, Eq.refl _⟩ | fail))) <;> (try conv => whnf))
end Go.Proofs.Ytmnbpamaiboghaa
