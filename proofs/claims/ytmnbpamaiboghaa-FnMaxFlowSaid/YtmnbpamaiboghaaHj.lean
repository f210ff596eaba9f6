/-
  Cuts that a code draws; the least of the sinks, in plain words.
-/
import Derived.Test.YtmnbpamaiboghaaHi
import Derived.Test.YtmnbpamaiboghaaHh
namespace Go.Proofs.Ytmnbpamaiboghaa
set_option linter.unusedVariables false
set_option linter.unusedSimpArgs false
/-- s, and some of the first n nodes beside s and t. -/
def cnL (code : List Int) (s t : Int) : Nat → List Int
  | 0 => [s]
  | a + 1 => if (a : Int) ≠ s ∧ (a : Int) ≠ t ∧ atC code a % 2 = 0 then cnL code s t a ++ [(a : Int)] else cnL code s t a
theorem cnL_mem {code : List Int} {s t x : Int} : ∀ {n : Nat}, x ∈ cnL code s t n → x = s ∨ (0 ≤ x ∧ x < n ∧ x ≠ s ∧ x ≠ t) := by
  intro n
  induction n with
  | zero => intro h; left; simpa [cnL] using h
  | succ n ih =>
    intro h
    unfold cnL at h
    split at h
    · rename_i hc
      rcases List.mem_append.1 h with h | h
      · rcases ih h with e | e
        · exact .inl e
        · exact .inr ⟨e.1, by omega, e.2.2⟩
      · rw [List.mem_singleton] at h
        subst h
        exact .inr ⟨by omega, by omega, hc.1, hc.2.1⟩
    · rcases ih h with e | e
      · exact .inl e
      · exact .inr ⟨e.1, by omega, e.2.2⟩
theorem cnL_nd {code : List Int} {s t : Int} : ∀ {n : Nat}, (cnL code s t n).Nodup := by
  intro n
  induction n with
  | zero => simp [cnL]
  | succ n ih =>
    unfold cnL
    split
    · rename_i hc
      rw [List.nodup_append]
      refine ⟨ih, by simp, fun x hx y hy => ?_⟩
      rw [List.mem_singleton] at hy
      subst hy
      rcases cnL_mem hx with e | e
      · rw [e]; exact Ne.symm hc.1
      · exact fun e2 => by omega
    · exact ih
theorem cnL_s {code : List Int} {s t : Int} : ∀ {n : Nat}, s ∈ cnL code s t n := by
  intro n
  induction n with
  | zero => simp [cnL]
  | succ n ih =>
    unfold cnL
    split
    · exact List.mem_append.2 (.inl ih)
    · exact ih
theorem cnL_t {code : List Int} {s t : Int} (h : s ≠ t) {n : Nat} : t ∉ cnL code s t n := fun hm => by
  rcases cnL_mem hm with e | e
  · exact h e.symm
  · exact e.2.2.2 rfl
theorem cnL_len {code : List Int} {s t : Int} : ∀ {n : Nat}, (cnL code s t n).length ≤ n + 1 := by
  intro n
  induction n with
  | zero => simp [cnL]
  | succ n ih =>
    unfold cnL
    split
    · rw [List.length_append, List.length_singleton]; omega
    · omega
theorem cnL_yes {code : List Int} {s t : Int} {a : Nat} (h : (a : Int) ≠ s ∧ (a : Int) ≠ t ∧ atC code a % 2 = 0) : cnL code s t (a + 1) = cnL code s t a ++ [(a : Int)] := if_pos h
theorem cnL_no {code : List Int} {s t : Int} {a : Nat} (h : ¬ ((a : Int) ≠ s ∧ (a : Int) ≠ t ∧ atC code a % 2 = 0)) : cnL code s t (a + 1) = cnL code s t a := if_neg h
theorem cnL_zero {code : List Int} {s t : Int} : cnL code s t 0 = [s] := rfl
/-- The sinks among the first n nodes; the least of what flows to them, or -1. -/
noncomputable def skL (code : List Int) (g : Gr) (s t : Int) : Nat → List Int × Int
  | 0 => ([], -1)
  | a + 1 => if (a : Int) ≠ s ∧ ((a : Int) = t ∨ atC code (a + 9) % 3 = 0) then ((skL code g s t a).1 ++ [(a : Int)], if (skL code g s t a).2 < 0 ∨ mfv g s a < (skL code g s t a).2 then mfv g s a else (skL code g s t a).2) else skL code g s t a
theorem skL_zero {code : List Int} {g : Gr} {s t : Int} : skL code g s t 0 = ([], -1) := rfl
theorem skL_yes {code : List Int} {g : Gr} {s t : Int} {a : Nat} (h : (a : Int) ≠ s ∧ ((a : Int) = t ∨ atC code (a + 9) % 3 = 0)) : skL code g s t (a + 1) = ((skL code g s t a).1 ++ [(a : Int)], if (skL code g s t a).2 < 0 ∨ mfv g s a < (skL code g s t a).2 then mfv g s a else (skL code g s t a).2) := if_pos h
theorem skL_no {code : List Int} {g : Gr} {s t : Int} {a : Nat} (h : ¬ ((a : Int) ≠ s ∧ ((a : Int) = t ∨ atC code (a + 9) % 3 = 0))) : skL code g s t (a + 1) = skL code g s t a := if_neg h
theorem mcN_pre {g : Gr} {s x : Int} {l : List Int} : ∀ {n : Nat}, n ≤ l.length → mcN g s (l ++ [x]) n = mcN g s l n := by
  intro n
  induction n with
  | zero => intro _; rfl
  | succ n ih =>
    intro hn
    unfold mcN
    have e : (l ++ [x]).getD n 0 = l.getD n 0 := by rw [List.getD_eq_getElem?_getD, List.getElem?_append_left (by omega), ← List.getD_eq_getElem?_getD]
    rw [ih (by omega), e]
theorem mfv_nonneg {g : Gr} {s t : Int} : 0 ≤ mfv g s t := by
  cases hq : quest g s t with
  | false => rw [mfv_no hq]; exact Int.le_refl _
  | true =>
    rw [mfv_yes hq]
    obtain ⟨v, h1, h2, _⟩ := max_min (quest_iff.1 hq)
    have := h1.net s
    rw [if_pos rfl, if_neg (Ne.symm (quest_iff.1 hq).ne)] at this
    omega
theorem mfv_v {g : Gr} {s t : Int} (hq : Quest g s t) : FlowV g (mfF g s t) s t (mfv g s t) ∧ cutS (memI (mcL g s t)) g.2.1 g.2.1.length = mfv g s t ∧ t ∉ mcL g s t := by
  obtain ⟨v, h1, h2, h3, h4⟩ := max_min hq
  have := h1.net s
  rw [if_pos rfl, if_neg (Ne.symm hq.ne)] at this
  have e : mfv g s t = v := by rw [mfv_yes (quest_iff.2 hq)]; omega
  rw [e]
  exact ⟨h1, h3, h4⟩
theorem mfv_le {g : Gr} {s t : Int} (hv : ValidG g) : mfv g s t ≤ 160 := by
  cases hq : quest g s t with
  | false => rw [mfv_no hq]; omega
  | true =>
    rw [mfv_yes hq]
    exact netS_le hv (mfF_ok (quest_iff.1 hq))
theorem skL_inv {code : List Int} {g : Gr} {s t : Int} : ∀ {n : Nat}, (skL code g s t n).1.length ≤ n ∧ (((skL code g s t n).1 = [] ∧ (skL code g s t n).2 = -1) ∨ (0 < (skL code g s t n).1.length ∧ 0 ≤ (skL code g s t n).2 ∧ mcN g s (skL code g s t n).1 (skL code g s t n).1.length = (skL code g s t n).2)) := by
  intro n
  induction n with
  | zero => exact ⟨Nat.le_refl _, .inl ⟨rfl, rfl⟩⟩
  | succ n ih =>
    by_cases hc : (n : Int) ≠ s ∧ ((n : Int) = t ∨ atC code (n + 9) % 3 = 0)
    · rw [skL_yes hc]
      generalize skL code g s t n = q at ih
      obtain ⟨l, m⟩ := q
      simp only at ih ⊢
      have h0 := mfv_nonneg (g := g) (s := s) (t := (n : Int))
      refine ⟨by rw [List.length_append, List.length_singleton]; omega, .inr ⟨by simp, ?_, ?_⟩⟩
      · split
        · exact h0
        · rename_i hn; omega
      · rw [List.length_append, List.length_singleton]
        have e1 : (l ++ [(n : Int)]).getD l.length 0 = (n : Int) := by simp [List.getD_eq_getElem?_getD]
        unfold mcN
        rw [e1, mcN_pre (Nat.le_refl _)]
        rcases ih.2 with ⟨rfl, rfl⟩ | ⟨h1, h2, h3⟩
        · simp
        · rw [h3]
          by_cases hm : mfv g s n < m
          · rw [if_pos (.inr hm), if_pos (.inr hm)]
          · rw [if_neg (by omega), if_neg (by omega)]
    · rw [skL_no hc]
      exact ⟨by omega, ih.2⟩
theorem skL_mcc {code : List Int} {g : Gr} {s t : Int} {n : Nat} : mcN g s (skL code g s t n).1 (skL code g s t n).1.length = max 0 (skL code g s t n).2 := by
  rcases (skL_inv (code := code) (g := g) (s := s) (t := t) (n := n)).2 with ⟨h1, h2⟩ | ⟨h1, h2, h3⟩
  · rw [h1, h2]
    show (0 : Int) = max 0 (-1)
    omega
  · omega
theorem cuts_ok {g : Gr} {s t : Int} (hv : ValidG g) (s0 : 0 ≤ s) (s1 : s < g.1) (t0 : 0 ≤ t) (t1 : t < g.1) : (0 < mfv g s t) ↔ (s ≠ t ∧ t ∈ rnL g s) := by
  by_cases e : s = t
  · have hq : quest g s t = false := by
      cases hq : quest g s t with
      | false => rfl
      | true => exact absurd e (quest_iff.1 hq).ne
    rw [mfv_no hq]
    constructor
    · intro h; omega
    · rintro ⟨h, _⟩; exact absurd e h
  · have hq : Quest g s t := ⟨hv, s0, s1, t0, t1, e⟩
    obtain ⟨h1, h2, h3⟩ := mfv_v hq
    rw [flow_reach hq h1 h2 h3 mfv_nonneg]
    unfold rnL
    rw [rnN_mem]
    have hg1 := hv.lo
    constructor
    · intro h; exact ⟨e, t0, by omega, h⟩
    · intro h; exact h.2.2.2
end Go.Proofs.Ytmnbpamaiboghaa
