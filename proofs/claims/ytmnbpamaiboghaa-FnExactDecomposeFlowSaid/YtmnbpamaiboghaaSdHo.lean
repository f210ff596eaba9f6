/-
  The cheapest path, in plain words: what it costs, and that no path is cheaper; the loads of two paths.
-/
import Derived.Test.YtmnbpamaiboghaaSdGe
import Derived.Test.YtmnbpamaiboghaaSdHc
import Derived.Test.YtmnbpamaiboghaaSdFk
namespace Go.Proofs.Ytmnbpamaiboghaa
set_option linter.unusedVariables false
set_option linter.unusedSimpArgs false
theorem isP_nd {g : Gr} {p : List Int} (h : IsP g p) : p.Nodup := by
  rw [List.Nodup, List.pairwise_iff_getElem]
  intro i j hi hj hij e
  have h1 := (h.at_ j hj).2.2.1
  have h2 : hasI (p.take j) (p.getD j 0) = true := hasI_at (i := i) (by simp; omega) (by
    rw [List.getD_eq_getElem?_getD, List.getD_eq_getElem?_getD, List.getElem?_take, if_pos hij, List.getElem?_eq_getElem hi, List.getElem?_eq_getElem hj, e])
  rw [h2] at h1; cases h1
theorem isP_len {g : Gr} {p : List Int} (h : IsP g p) : p.length ≤ 8 := by
  have hv := h.v.hi
  have := nodup_le 8 p (isP_nd h) (fun x hx => by
    obtain ⟨i, hi, e⟩ := mem_getD hx
    have h1 := h.at_ i hi
    unfold StepOk at h1
    rw [e] at h1
    omega)
  exact this
/-- Edges are in order. -/
theorem edges_lt {g : Gr} (hv : ValidG g) {i : Nat} : ∀ {d : Nat}, i + d + 1 < g.2.1.length → LessE (g.2.1.getD i default) (g.2.1.getD (i + d + 1) default) := by
  intro d
  induction d with
  | zero =>
    intro h
    have := (hv.edge (i + 1) h).2.2.2.2.2.2.2 (by omega)
    exact this
  | succ d ih =>
    intro h
    have h1 := ih (by omega)
    have h2 := (hv.edge (i + d + 1 + 1) h).2.2.2.2.2.2.2 (by omega)
    rw [Nat.add_sub_cancel] at h2
    have e : i + (d + 1) + 1 = i + d + 1 + 1 := by omega
    rw [e]
    unfold LessE at *
    omega
theorem edge_uniq {g : Gr} (hv : ValidG g) {i j : Nat} (hi : i < g.2.1.length) (hj : j < g.2.1.length) (h1 : (g.2.1.getD i default).1 = (g.2.1.getD j default).1) (h2 : (g.2.1.getD i default).2.1 = (g.2.1.getD j default).2.1) : i = j := by
  have key : ∀ {i j : Nat}, j < g.2.1.length → (g.2.1.getD i default).1 = (g.2.1.getD j default).1 → (g.2.1.getD i default).2.1 = (g.2.1.getD j default).2.1 → ¬ i < j := fun {i j} hj h1 h2 hij => by
    obtain ⟨d, rfl⟩ : ∃ d, j = i + d + 1 := ⟨j - i - 1, by omega⟩
    have := edges_lt hv hj
    unfold LessE at this
    omega
  have a := key hj h1 h2
  have b := key hi h1.symm h2.symm
  omega
/-- The way from a node that the cheapest edges lead. -/
structure CcOk (g : Gr) (v c : List Int) (t a : Int) (l : List Int) : Prop where
  ne : 0 < l.length
  fst : l.getD 0 0 = a
  lst : l.getD (l.length - 1) 0 = t
  mem : ∀ x ∈ l, 0 ≤ x ∧ x < g.1 ∧ 0 ≤ cAt c x ∧ cAt c x ≤ cAt c a
  dn : l.Pairwise (fun x y => cAt c y < cAt c x)
  edge : ∀ q, q + 1 < l.length → ∃ k, k < g.2.1.length ∧ (eAt g k).1 = l.getD q 0 ∧ (eAt g k).2.1 = l.getD (q + 1) 0 ∧ cAt c (l.getD (q + 1) 0) + v.getD k 0 + 1 = cAt c (l.getD q 0)
/-! ### the loads of two paths -/
def totL (xs : List Int) : Nat → Int := sumP (fun k => xs.getD k 0)
theorem totL_set {xs : List Int} {i : Nat} {x : Int} (hi : i < xs.length) : ∀ {n : Nat}, totL (xs.set i x) n = totL xs n + if i < n then x - xs.getD i 0 else 0 := by
  intro n
  induction n with
  | zero => rw [if_neg (by omega)]; rfl
  | succ n ih =>
    have e1 : totL (xs.set i x) (n + 1) = totL (xs.set i x) n + (xs.set i x).getD n 0 := rfl
    have e2 : totL xs (n + 1) = totL xs n + xs.getD n 0 := rfl
    rw [e1, e2, ih]
    by_cases e : i = n
    · subst e
      rw [getD_set_eq hi, if_neg (by omega), if_pos (by omega)]
      omega
    · rw [getD_set_ne e]
      by_cases h : i < n
      · rw [if_pos h, if_pos (by omega)]; omega
      · rw [if_neg h, if_neg (by omega)]; omega
end Go.Proofs.Ytmnbpamaiboghaa
