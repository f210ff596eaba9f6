/-
  Plans, in plain words: what a node has, what it sends, plans node by node.
-/
import Derived.Test.YtbepgedckfhifaaGreatFiJc
import Derived.Test.YtbepgedckfhifaaGreatFiJe
import Derived.Test.YtbepgedckfhifaaGreatFiDh
import Derived.Test.YtbepgedckfhifaaGreatFiGg
namespace Go.Proofs.YtbepgedckfhifaaGreat
set_option linter.unusedVariables false
set_option linter.unusedSimpArgs false
set_option maxRecDepth 100000
set_option maxHeartbeats 4000000
attribute [local irreducible] Fn
abbrev vE (E : EdgePlanS_T) (e : Nat) : List (List Int) := (E.getD e default).1
def insN (E : EdgePlanS_T) (L : List Int) : Nat → List (List Int)
  | 0 => []
  | j + 1 => insN E L j ++ vE E (L.getD j 0).toNat
def insP (E : EdgePlanS_T) (L : List Int) : Nat → List (Nat × Nat)
  | 0 => []
  | j + 1 => insP E L j ++ (List.range (vE E (L.getD j 0).toNat).length).map fun k => ((L.getD j 0).toNat, k)
def insL (g : Gr) (E : EdgePlanS_T) (a : Int) : List (List Int) := insN E (eTo g a) (eTo g a).length
noncomputable def inL (g : Gr) (E : EdgePlanS_T) (s a : Int) (d : Nat) : List (List Int) := if a = s then idL d else insL g E a
theorem inL_yes {g : Gr} {E : EdgePlanS_T} {s a : Int} {d : Nat} (h : a = s) : inL g E s a d = idL d := if_pos h
theorem inL_no {g : Gr} {E : EdgePlanS_T} {s a : Int} {d : Nat} (h : ¬ a = s) : inL g E s a d = insL g E a := if_neg h
theorem insN_zero {E : EdgePlanS_T} {L : List Int} : insN E L 0 = [] := rfl
theorem insN_succ {E : EdgePlanS_T} {L : List Int} {j : Nat} : insN E L (j + 1) = insN E L j ++ vE E (L.getD j 0).toNat := rfl
theorem insP_zero {E : EdgePlanS_T} {L : List Int} : insP E L 0 = [] := rfl
theorem insP_succ {E : EdgePlanS_T} {L : List Int} {j : Nat} : insP E L (j + 1) = insP E L j ++ (List.range (vE E (L.getD j 0).toNat).length).map fun k => ((L.getD j 0).toNat, k) := rfl
theorem insP_len {E : EdgePlanS_T} {L : List Int} : ∀ {j : Nat}, (insP E L j).length = (insN E L j).length := by
  intro j
  induction j with
  | zero => rfl
  | succ j ih => rw [insP_succ, insN_succ]; simp [ih]
theorem getD_appL {X : Type} {a b : List X} {i : Nat} {z : X} (h : i < a.length) : (a ++ b).getD i z = a.getD i z := by
  rw [List.getD_eq_getElem?_getD, List.getElem?_append_left h, List.getD_eq_getElem?_getD]
theorem getD_appR {X : Type} {a b : List X} {i : Nat} {z : X} (h : a.length ≤ i) : (a ++ b).getD i z = b.getD (i - a.length) z := by
  rw [List.getD_eq_getElem?_getD, List.getElem?_append_right h, List.getD_eq_getElem?_getD]
theorem pair_at {n k e : Nat} {z : Nat × Nat} (h : k < n) : ((List.range n).map fun k => (e, k)).getD k z = (e, k) := by simp [List.getD_eq_getElem?_getD, h]
theorem insP_at {E : EdgePlanS_T} {L : List Int} : ∀ {j i : Nat}, i < (insN E L j).length → (insN E L j).getD i default = (vE E ((insP E L j).getD i (0, 0)).1).getD ((insP E L j).getD i (0, 0)).2 default ∧
    ((insP E L j).getD i (0, 0)).2 < (vE E ((insP E L j).getD i (0, 0)).1).length ∧ ∃ q, q < j ∧ ((insP E L j).getD i (0, 0)).1 = (L.getD q 0).toNat := by
  intro j
  induction j with
  | zero => intro i h; exact absurd h (Nat.not_lt_zero _)
  | succ j ih =>
    intro i h
    have hpl := insP_len (E := E) (L := L) (j := j)
    rw [insN_succ] at h ⊢
    rw [insP_succ]
    rcases Nat.lt_or_ge i (insN E L j).length with h1 | h1
    · rw [getD_appL h1, getD_appL (by omega)]
      obtain ⟨a1, a2, q, a3, a4⟩ := ih h1
      exact ⟨a1, a2, q, by omega, a4⟩
    · rw [List.length_append] at h
      rw [getD_appR h1, getD_appR (by omega), hpl, pair_at (by omega)]
      exact ⟨rfl, by show i - (insN E L j).length < (vE E (L.getD j 0).toNat).length; omega, j, by omega, rfl⟩
noncomputable def vNew (seed : Int) (ins : List (List Int)) (d : Nat) (e : Int) (k : Nat) : List Int := if 1 ≤ ins.length ∧ ins.length ≤ 40 then cmbN ins (rvL (khash seed [e, (k : Int)]) ins.length) ins.length else List.replicate d 0
theorem vNew_yes {seed : Int} {ins : List (List Int)} {d : Nat} {e : Int} {k : Nat} (h : 1 ≤ ins.length ∧ ins.length ≤ 40) : vNew seed ins d e k = cmbN ins (rvL (khash seed [e, (k : Int)]) ins.length) ins.length := if_pos h
theorem vNew_no {seed : Int} {ins : List (List Int)} {d : Nat} {e : Int} {k : Nat} (h : ¬ (1 ≤ ins.length ∧ ins.length ≤ 40)) : vNew seed ins d e k = List.replicate d 0 := if_neg h
theorem vNew_ok {seed : Int} {ins : List (List Int)} {d : Nat} {e : Int} {k : Nat} (h : ∀ i, i < ins.length → LA.VecOk d (ins.getD i default)) : LA.VecOk d (vNew seed ins d e k) := by
  by_cases h1 : 1 ≤ ins.length ∧ ins.length ≤ 40
  · rw [vNew_yes h1]; exact cmbN_ok (h 0 (by omega)).1
  · rw [vNew_no h1]; exact zeros_ok
noncomputable def nwL (seed : Int) (ins : List (List Int)) (d : Nat) (e : Int) (k : Nat) : List (List Int) := (List.range k).map (vNew seed ins d e)
theorem nwL_len {seed : Int} {ins : List (List Int)} {d : Nat} {e : Int} {k : Nat} : (nwL seed ins d e k).length = k := by simp [nwL]
theorem nwL_at {seed : Int} {ins : List (List Int)} {d : Nat} {e : Int} {k i : Nat} (h : i < k) : (nwL seed ins d e k).getD i default = vNew seed ins d e i := by simp [nwL, List.getD_eq_getElem?_getD, h]
theorem nwL_zero {seed : Int} {ins : List (List Int)} {d : Nat} {e : Int} : nwL seed ins d e 0 = [] := rfl
def capN (g : Gr) (e : Int) : Nat := (g.2.1.getD e.toNat default).2.2.1.toNat
noncomputable def ndE (g : Gr) (seed : Int) (ins : List (List Int)) (d : Nat) (L : List Int) (E : EdgePlanS_T) : Nat → EdgePlanS_T
  | 0 => E
  | j + 1 => (ndE g seed ins d L E j).set (L.getD j 0).toNat (nwL seed ins d (L.getD j 0) (capN g (L.getD j 0)), ())
theorem ndE_zero {g : Gr} {seed : Int} {ins : List (List Int)} {d : Nat} {L : List Int} {E : EdgePlanS_T} : ndE g seed ins d L E 0 = E := rfl
theorem ndE_succ {g : Gr} {seed : Int} {ins : List (List Int)} {d : Nat} {L : List Int} {E : EdgePlanS_T} {j : Nat} : ndE g seed ins d L E (j + 1) = (ndE g seed ins d L E j).set (L.getD j 0).toNat (nwL seed ins d (L.getD j 0) (capN g (L.getD j 0)), ()) := rfl
theorem ndE_len {g : Gr} {seed : Int} {ins : List (List Int)} {d : Nat} {L : List Int} {E : EdgePlanS_T} : ∀ {j : Nat}, (ndE g seed ins d L E j).length = E.length := by
  intro j
  induction j with
  | zero => rfl
  | succ j ih => rw [ndE_succ, List.length_set, ih]
theorem set_atE {E : EdgePlanS_T} {e i : Nat} {x : List (List Int) × Unit} : vE (E.set e x) i = if i = e ∧ e < E.length then x.1 else vE E i := by
  unfold vE
  rw [List.getD_eq_getElem?_getD, List.getD_eq_getElem?_getD, List.getElem?_set]
  by_cases h : e = i
  · subst h
    by_cases h2 : e < E.length
    · rw [if_pos rfl, if_pos h2, if_pos ⟨rfl, h2⟩]; rfl
    · rw [if_pos rfl, if_neg h2, if_neg (fun h => h2 h.2), List.getElem?_eq_none (by omega)]
  · rw [if_neg h, if_neg (fun h3 => h h3.1.symm)]
theorem ndE_out {g : Gr} {seed : Int} {ins : List (List Int)} {d : Nat} {L : List Int} {E : EdgePlanS_T} {e : Nat} : ∀ {j : Nat}, (∀ q, q < j → (L.getD q 0).toNat ≠ e) → vE (ndE g seed ins d L E j) e = vE E e := by
  intro j
  induction j with
  | zero => intro _; rfl
  | succ j ih =>
    intro h
    rw [ndE_succ, set_atE, if_neg (fun h2 => h j (by omega) h2.1.symm)]
    exact ih (fun q hq => h q (by omega))
structure PlE (d : Nat) (E : EdgePlanS_T) : Prop where
  vec : ∀ e k, k < (vE E e).length → LA.VecOk d ((vE E e).getD k default)
  len : ∀ e, (vE E e).length ≤ 8
theorem PlE.set {d : Nat} {E : EdgePlanS_T} (h : PlE d E) {e : Nat} {x : List (List Int) × Unit} (h1 : ∀ k, k < x.1.length → LA.VecOk d (x.1.getD k default)) (h2 : x.1.length ≤ 8) : PlE d (E.set e x) := by
  refine ⟨fun i k hk => ?_, fun i => ?_⟩
  · rw [set_atE] at hk ⊢
    split at hk
    · rename_i hc; rw [if_pos hc]; exact h1 k hk
    · rename_i hc; rw [if_neg hc]; exact h.vec i k hk
  · rw [set_atE]
    split
    · exact h2
    · exact h.len i
theorem nwL_ok {seed : Int} {ins : List (List Int)} {d : Nat} {e : Int} {n : Nat} (h : ∀ i, i < ins.length → LA.VecOk d (ins.getD i default)) : ∀ k, k < (nwL seed ins d e n).length → LA.VecOk d ((nwL seed ins d e n).getD k default) := fun k hk => by
  rw [nwL_len] at hk
  rw [nwL_at hk]; exact vNew_ok h
theorem idL_ok {d : Nat} : ∀ i, i < (idL d).length → LA.VecOk d ((idL d).getD i default) := fun i hi => by
  rw [idL_len] at hi
  rw [idL_at hi]; exact unitL_ok
theorem insN_ok {d : Nat} {E : EdgePlanS_T} (h : PlE d E) {L : List Int} {j : Nat} : (∀ i, i < (insN E L j).length → LA.VecOk d ((insN E L j).getD i default)) ∧ (insN E L j).length ≤ 8 * j := by
  refine ⟨fun i hi => ?_, ?_⟩
  · obtain ⟨h1, h2, _⟩ := insP_at hi
    rw [h1]; exact h.vec _ _ h2
  · induction j with
    | zero => exact Nat.le_refl _
    | succ j ih =>
      rw [insN_succ, List.length_append]
      have := h.len (L.getD j 0).toNat
      omega
theorem inL_ok {d : Nat} {g : Gr} {E : EdgePlanS_T} {s a : Int} (h : PlE d E) : ∀ i, i < (inL g E s a d).length → LA.VecOk d ((inL g E s a d).getD i default) := by
  by_cases h1 : a = s
  · rw [inL_yes h1]; exact idL_ok
  · rw [inL_no h1]; exact (insN_ok h).1
theorem capN_le {g : Gr} (hv : ValidG g) (e : Int) : capN g e ≤ 8 := by
  unfold capN
  by_cases h : e.toNat < g.2.1.length
  · obtain ⟨_, _, _, _, _, h1, h2, _⟩ := hv.edge _ h
    omega
  · rw [List.getD_eq_getElem?_getD, List.getElem?_eq_none (by omega)]
    decide
theorem ndE_ok {g : Gr} (hv : ValidG g) {seed : Int} {ins : List (List Int)} {d : Nat} {L : List Int} {E : EdgePlanS_T} (hE : PlE d E) (h : ∀ i, i < ins.length → LA.VecOk d (ins.getD i default)) : ∀ {j : Nat}, PlE d (ndE g seed ins d L E j) := by
  intro j
  induction j with
  | zero => exact hE
  | succ j ih => rw [ndE_succ]; exact ih.set (nwL_ok h) (by show (nwL _ _ _ _ _).length ≤ 8; rw [nwL_len]; exact capN_le hv _)
noncomputable def plnE (g : Gr) (s seed : Int) (d : Nat) (O : List Int) : Nat → EdgePlanS_T
  | 0 => List.replicate g.2.1.length ([], ())
  | i + 1 => ndE g seed (inL g (plnE g s seed d O i) s (O.getD i 0) d) d (eFrom g (O.getD i 0)) (plnE g s seed d O i) (eFrom g (O.getD i 0)).length
theorem plnE_zero {g : Gr} {s seed : Int} {d : Nat} {O : List Int} : plnE g s seed d O 0 = List.replicate g.2.1.length ([], ()) := rfl
theorem plnE_succ {g : Gr} {s seed : Int} {d : Nat} {O : List Int} {i : Nat} : plnE g s seed d O (i + 1) = ndE g seed (inL g (plnE g s seed d O i) s (O.getD i 0) d) d (eFrom g (O.getD i 0)) (plnE g s seed d O i) (eFrom g (O.getD i 0)).length := rfl
theorem plnE_len {g : Gr} {s seed : Int} {d : Nat} {O : List Int} : ∀ {i : Nat}, (plnE g s seed d O i).length = g.2.1.length := by
  intro i
  induction i with
  | zero => simp [plnE]
  | succ i ih => rw [plnE_succ, ndE_len, ih]
theorem rep_vE {n e : Nat} : vE (List.replicate n ([], ())) e = [] := by
  unfold vE
  rw [List.getD_eq_getElem?_getD, List.getElem?_replicate]
  split <;> rfl
theorem plnE_ok {g : Gr} (hv : ValidG g) {s seed : Int} {d : Nat} {O : List Int} : ∀ {i : Nat}, PlE d (plnE g s seed d O i) := by
  intro i
  induction i with
  | zero => exact ⟨fun e k hk => by rw [plnE_zero, rep_vE] at hk; exact absurd hk (Nat.not_lt_zero _), fun e => by rw [plnE_zero, rep_vE]; exact Nat.zero_le _⟩
  | succ i ih => rw [plnE_succ]; exact ndE_ok hv ih (inL_ok ih)
theorem from_at {g : Gr} {a : Int} {k : Nat} (h : k < (eFrom g a).length) : (g.2.1.getD ((eFrom g a).getD k 0).toNat default).1 = a := by
  have := (idxs_at h).2.2
  exact of_decide_eq_true this
theorem to_at {g : Gr} {a : Int} {k : Nat} (h : k < (eTo g a).length) : (g.2.1.getD ((eTo g a).getD k 0).toNat default).2.1 = a := by
  have := (idxs_at h).2.2
  exact of_decide_eq_true this
theorem plnE_none {g : Gr} {s seed : Int} {d : Nat} {O : List Int} {e : Nat} : ∀ {i : Nat}, (∀ q, q < i → O.getD q 0 ≠ (g.2.1.getD e default).1) → vE (plnE g s seed d O i) e = [] := by
  intro i
  induction i with
  | zero => intro _; rw [plnE_zero]; exact rep_vE
  | succ i ih =>
    intro h
    rw [plnE_succ, ndE_out (fun q hq e2 => h i (by omega) ?_)]
    · exact ih (fun q hq => h q (by omega))
    · rw [← e2, from_at hq]
end Go.Proofs.YtbepgedckfhifaaGreat
