/-
  What is reached is reached on; a graph without the edges from a node, in plain words.
-/
import Derived.Test.YtmnbpamaiboghaaSaHr
namespace Go.Proofs.Ytmnbpamaiboghaa
set_option linter.unusedVariables false
set_option linter.unusedSimpArgs false
def rmIx (B : Nat → Bool) (n : Nat) : List Nat := (List.range n).filter fun i => !B i
theorem rmIx_up {B : Nat → Bool} {n : Nat} : (rmIx B n).Pairwise (fun a b => a < b) := List.pairwise_lt_range.filter _
theorem rmE_eq {B : Nat → Bool} {es : List Edg} {n : Nat} : rmE B es n = (rmIx B n).map fun i => es.getD i default := rfl
theorem rmE_at {B : Nat → Bool} {es : List Edg} {n i : Nat} (h : i < (rmE B es n).length) : ∃ hi : i < (rmIx B n).length, (rmE B es n).getD i default = es.getD (rmIx B n)[i] default ∧ (rmIx B n)[i] < n ∧ B (rmIx B n)[i] = false := by
  have hi : i < (rmIx B n).length := by rw [rmE_eq, List.length_map] at h; exact h
  refine ⟨hi, ?_, ?_, ?_⟩
  · rw [rmE_eq, List.getD_eq_getElem?_getD, List.getElem?_map, List.getElem?_eq_getElem hi]; rfl
  · have := List.getElem_mem hi
    unfold rmIx at this
    exact List.mem_range.1 (List.mem_filter.1 this).1
  · have := List.getElem_mem hi
    generalize (rmIx B n)[i] = x at this
    unfold rmIx at this
    simpa using (List.mem_filter.1 this).2
def rmG (g : Gr) (B : Nat → Bool) : Gr := (g.1, rmE B g.2.1 g.2.1.length, ())
theorem rm_valid {g : Gr} (hv : ValidG g) (B : Nat → Bool) : ValidG (rmG g B) := by
  refine ⟨hv.lo, hv.hi, ?_, fun i hi => ?_⟩
  · have := rmE_len (B := B) (es := g.2.1) (n := g.2.1.length)
    have := hv.len
    show (rmE B g.2.1 g.2.1.length).length ≤ 20
    omega
  · have hi' : i < (rmE B g.2.1 g.2.1.length).length := hi
    obtain ⟨h1, h2, h3, h4⟩ := rmE_at hi'
    have he := hv.edge _ h3
    simp only [EdgeOk] at he ⊢
    show 0 ≤ ((rmE B g.2.1 g.2.1.length).getD i default).1 ∧ _
    rw [show (rmG g B).2.1 = rmE B g.2.1 g.2.1.length from rfl, show (rmG g B).1 = g.1 from rfl, h2]
    refine ⟨he.1, he.2.1, he.2.2.1, he.2.2.2.1, he.2.2.2.2.1, he.2.2.2.2.2.1, he.2.2.2.2.2.2.1, fun h0 => ?_⟩
    obtain ⟨g1, g2, g3, g4⟩ := rmE_at (B := B) (es := g.2.1) (n := g.2.1.length) (i := i - 1) (by omega)
    rw [g2]
    have hlt : (rmIx B g.2.1.length)[i - 1] < (rmIx B g.2.1.length)[i] := List.pairwise_iff_getElem.1 rmIx_up (i - 1) i g1 h1 (by omega)
    obtain ⟨d, hd⟩ : ∃ d, (rmIx B g.2.1.length)[i] = (rmIx B g.2.1.length)[i - 1] + d + 1 := ⟨(rmIx B g.2.1.length)[i] - (rmIx B g.2.1.length)[i - 1] - 1, by omega⟩
    have := edges_lt hv (i := (rmIx B g.2.1.length)[i - 1]) (d := d) (by omega)
    rw [← hd] at this
    exact this
/-- Without the edges from node a. -/
def noF (g : Gr) (a : Int) : Gr := rmG g fun i => hasI (eFrom g a) i
theorem hasF {g : Gr} {a : Int} {i : Nat} (hi : i < g.2.1.length) : hasI (eFrom g a) (i : Int) = fromB a (g.2.1.getD i default) := by
  rw [Bool.eq_iff_iff, hasI_iff]
  unfold eFrom
  rw [idxs_mem]
  constructor
  · rintro ⟨k, h1, h2, h3⟩
    have : i = k := by omega
    subst this; exact h3
  · intro h; exact ⟨i, hi, rfl, h⟩
theorem noF_cnt {g : Gr} {a : Int} : ∀ {n : Nat}, n ≤ g.2.1.length → (rmE (fun i => hasI (eFrom g a) i) g.2.1 n).length + (idxs (fromB a) g.2.1 n).length = n := by
  intro n
  induction n with
  | zero => intro _; rfl
  | succ n ih =>
    intro hn
    have I := ih (by omega)
    have hf := hasF (a := a) (i := n) (g := g) (by omega)
    cases hb : fromB a (g.2.1.getD n default) with
    | true =>
      rw [hb] at hf
      rw [rmE_yes hf]
      have e : idxs (fromB a) g.2.1 (n + 1) = idxs (fromB a) g.2.1 n ++ [(n : Int)] := if_pos hb
      rw [e, List.length_append, List.length_singleton]
      omega
    | false =>
      rw [hb] at hf
      rw [rmE_no hf]
      have e : idxs (fromB a) g.2.1 (n + 1) = idxs (fromB a) g.2.1 n := if_neg (by rw [hb]; exact Bool.false_ne_true)
      rw [e, List.length_append, List.length_singleton]
      omega
theorem noF_len {g : Gr} {a : Int} : (noF g a).2.1.length + (eFrom g a).length = g.2.1.length := noF_cnt (Nat.le_refl _)
theorem noF_edge {g : Gr} {a : Int} {k : Nat} (hk : k < (noF g a).2.1.length) : ((noF g a).2.1.getD k default).1 ≠ a := by
  obtain ⟨h1, h2, h3, h4⟩ := rmE_at (B := fun i => hasI (eFrom g a) i) (es := g.2.1) (n := g.2.1.length) (i := k) hk
  show ((rmE (fun i => hasI (eFrom g a) i) g.2.1 g.2.1.length).getD k default).1 ≠ a
  rw [h2]
  intro e
  have := hasF (a := a) h3
  rw [h4] at this
  have h5 : fromB a (g.2.1.getD (rmIx (fun i => hasI (eFrom g a) i) g.2.1.length)[k] default) = true := decide_eq_true e
  rw [h5] at this; cases this
theorem idxs_none {φ : Edg → Bool} {es : List Edg} : ∀ {n : Nat}, (∀ k, k < n → φ (es.getD k default) = false) → idxs φ es n = [] := by
  intro n
  induction n with
  | zero => intro _; rfl
  | succ n ih =>
    intro h
    have e : idxs φ es (n + 1) = idxs φ es n := if_neg (by rw [h n (by omega)]; exact Bool.false_ne_true)
    rw [e]; exact ih (fun k hk => h k (by omega))
theorem noF_from {g : Gr} {a : Int} : eFrom (noF g a) a = [] := idxs_none (fun k hk => decide_eq_false (noF_edge hk))
theorem sortI_one (a : Int) : sortI [a] = [a] := by
  have := (sortI_perm (xs := [a]))
  exact List.perm_singleton.1 this
theorem noF_reach {g : Gr} {a : Int} (hv : ValidG g) (h0 : 0 ≤ a) (h1 : a < g.1) : rnL (noF g a) a = [a] := by
  rw [← sortI_one a]
  refine sorted_eq' rnN_up (by simp) (fun x => ?_)
  unfold rnL
  rw [rnN_mem, List.mem_singleton]
  constructor
  · rintro ⟨h2, h3, h4⟩
    have := reach_sound (g := noF g a) (l := [a]) (P := fun b => (b : Int) = a) (fun k hk hb => by
      exfalso
      have he := (rm_valid hv (fun i => hasI (eFrom g a) i)).ends hk
      have e1 : (((eAtT (noF g a) k).1.toNat : Nat) : Int) = (eAtT (noF g a) k).1 := by
        have : 0 ≤ (eAtT (noF g a) k).1 := he.1
        omega
      rw [e1] at hb
      exact noF_edge hk hb) (fun k hk => by
      have : k = 0 := by simpa using hk
      subst this
      show ((a.toNat : Nat) : Int) = a
      omega) x.toNat h4
    omega
  · rintro rfl
    have e : (noF g x).1 = g.1 := rfl
    refine ⟨h0, by rw [e]; omega, ?_⟩
    exact reach_start (g := noF g x) (l := [x]) (fun k hk => by
      have : k = 0 := by simpa using hk
      subst this; exact ⟨h0, h1⟩) (j := 0) (by simp)
/-- What is reached from a node that is reached is reached. -/
theorem reach_trans {g : Gr} {a b c : Int} (hv : ValidG g) (hb : b ∈ rnL g a) (hc : c ∈ rnL g b) : c ∈ rnL g a := by
  unfold rnL at *
  rw [rnN_mem] at *
  obtain ⟨b0, b1, b2⟩ := hb
  obtain ⟨c0, c1, c2⟩ := hc
  refine ⟨c0, c1, ?_⟩
  exact reach_sound (g := g) (l := [b]) (P := fun x => (reachL g [a]).getD x false = true) (fun k hk h => reach_closed hv k hk h) (fun k hk => by
    have : k = 0 := by simpa using hk
    subst this; exact b2) c.toNat c2
theorem reach_self {g : Gr} {a : Int} (hv : ValidG g) (h0 : 0 ≤ a) (h1 : a < g.1) : a ∈ rnL g a := by
  unfold rnL
  rw [rnN_mem]
  exact ⟨h0, by omega, reach_start (g := g) (l := [a]) (fun k hk => by
    have : k = 0 := by simpa using hk
    subst this; exact ⟨h0, h1⟩) (j := 0) (by simp)⟩
theorem rnL_rng {g : Gr} {a x : Int} (hv : ValidG g) (h : x ∈ rnL g a) : 0 ≤ x ∧ x < g.1 := by
  unfold rnL at h
  rw [rnN_mem] at h
  have := hv.lo
  omega
theorem eb_from {g : Gr} {a b : Int} (h : 0 ≤ eb g a b) : eb g a b ∈ eFrom g a ∧ eb g a b ∈ eTo g b := by
  obtain ⟨h1, h2, h3⟩ := eb_ends h
  have e : ((eb g a b).toNat : Int) = eb g a b := by omega
  constructor
  · unfold eFrom
    rw [idxs_mem]
    exact ⟨(eb g a b).toNat, by omega, e.symm, decide_eq_true h1⟩
  · unfold eTo
    rw [idxs_mem]
    exact ⟨(eb g a b).toNat, by omega, e.symm, decide_eq_true h2⟩
end Go.Proofs.Ytmnbpamaiboghaa
