/-
  Arguments opened: slices, whatever their elements.
-/
import Derived.Test.YtbncmiglhjfcdaaMem
import Derived.Deep.Slices
namespace Go.Proofs.Ytbncmiglhjfcdaa
open Go.ChangeShapes Go.WideShapes Go.ChangeAt Go.RowKit Go.Deep
set_option linter.unusedVariables false

theorem flatten_get {size : Nat} : ∀ (els : List (List Value)), (∀ el ∈ els, el.length = size) → ∀ (j : Nat) (u : Value), els.flatten[j]? = some u →
    ∃ i r el, r < size ∧ j = i * size + r ∧ els[i]? = some el ∧ el[r]? = some u
  | [], _, j, u, h => by simp at h
  | el :: els, hl, j, u, h => by
    rw [List.flatten_cons] at h
    have h0 := hl el (by simp)
    rcases Nat.lt_or_ge j el.length with hj | hj
    · rw [List.getElem?_append_left hj] at h
      exact ⟨0, j, el, by omega, by omega, rfl, h⟩
    · rw [List.getElem?_append_right hj] at h
      obtain ⟨i, r, el', h1, h2, h3, h4⟩ := flatten_get els (fun e he => hl e (by simp [he])) _ u h
      refine ⟨i + 1, r, el', h1, ?_, by simpa using h3, h4⟩
      rw [Nat.add_mul]
      omega
theorem flatten_length {size : Nat} : ∀ (els : List (List Value)), (∀ el ∈ els, el.length = size) → els.flatten.length = els.length * size
  | [], _ => by simp
  | el :: els, hl => by
    rw [List.flatten_cons, List.length_append, flatten_length els (fun e he => hl e (by simp [he])), hl el (by simp), List.length_cons, Nat.add_mul]
    omega

section
variable {H : Type} {enc : TypeId × Value → H} {P : Program} {w : World} {base : Nat} {spare : Nat → Bool} {held : Bool}
theorem inner_slice {t e : TypeId} {size fuel : Nat} {cs : List Value} {x : DataW H × List MemPlace} (ht : P.underlying t = some (.slice e)) (hsz : P.cellsOf e = size) (hs0 : 0 < size)
    (h : DataW.trod enc P w base spare held fuel t cs = some x) :
    ∃ (A : Option Addr) (n c : Nat) (els : List (List Value)), cs = [.slice A n c] ∧ n ≤ c ∧ c ≤ maxLen ∧ els.length = n ∧ Rd w size A n els.flatten ∧
      ∀ el ∈ els, el.length = size ∧ ∃ k y, DataW.trod enc P w base spare held k e el = some y := by
  rcases open_slice ht h with ⟨rfl, _⟩ | ⟨a, len, cap, m, n, D, Pl, rfl, hb, hl, hm, hmm, hx, hi⟩
  · exact ⟨none, 0, 0, [], rfl, Nat.le_refl _, Nat.zero_le _, rfl, Rd.nil, fun el hel => by simp at hel⟩
  · have hlm : len ≤ m := by rw [hmm]; split <;> omega
    rw [hsz] at hi
    let f : Nat → List Value := fun i => if hi' : i < m then Classical.choose (hi i hi') else []
    have hf : ∀ i, i < m → w.cells? base (a.add (i * size)) size = some (f i) ∧ DataW.trod enc P w base spare held n e (f i) = some (D i, Pl i) := by
      intro i him
      have := Classical.choose_spec (hi i him)
      simpa [f, him] using this
    have hlen : ∀ el ∈ (List.range len).map f, el.length = size := by
      intro el hel
      obtain ⟨i, hi1, rfl⟩ := List.mem_map.1 hel
      exact (World.cells?_some (hf i (by have := List.mem_range.1 hi1; omega)).1).2.1
    refine ⟨some a, len, cap, (List.range len).map f, rfl, hl, hm, by simp, ⟨by rw [flatten_length _ hlen]; simp, fun hpos => ?_⟩, ?_⟩
    · have h00 := (World.cells?_some (hf 0 (by omega)).1).2.2 0 hs0
      have hl0 : (f 0).length = size := hlen _ (List.mem_map.2 ⟨0, by simpa using hpos, rfl⟩)
      rw [List.getElem?_eq_getElem (by omega)] at h00
      have hspot : a.spot = none ∧ a.block < w.heap.size := by
        have e0 : ((a.add (0 * size)).add 0) = a := by simp [Addr.add]
        rw [e0] at h00
        unfold World.cell? at h00
        cases hh : w.heap[a.block]? with
        | none => rw [hh] at h00; cases h00
        | some ob =>
          rw [hh] at h00
          refine ⟨?_, (Array.getElem?_eq_some_iff.1 hh).1⟩
          cases ob with
          | cells c tt fr =>
            cases hs : a.spot with
            | none => rfl
            | some _ => simp [hs] at h00
          | _ => cases h00
      refine ⟨a.block, a.off, ?_, hspot.2, fun j u hu => ?_⟩
      · obtain ⟨b, o, s⟩ := a
        simp only at hspot
        rw [hspot.1]
      · obtain ⟨i, r, el, hr, hj, hel, hu'⟩ := flatten_get _ hlen j u hu
        have hil : i < len := by
          have := (List.getElem?_eq_some_iff.1 hel).1
          simpa using this
        have hel' : el = f i := by
          rw [List.getElem?_map, List.getElem?_range hil] at hel
          simpa using hel.symm
        have := (World.cells?_some (hf i (by omega)).1).2.2 r hr
        rw [← hel', hu'] at this
        obtain ⟨b, o, s⟩ := a
        obtain ⟨rfl, _⟩ : s = none ∧ True := ⟨hspot.1, trivial⟩
        rw [addr_add, addr_add] at this
        rw [hj, ← Nat.add_assoc]
        exact this
    · intro el hel
      refine ⟨hlen el hel, ?_⟩
      obtain ⟨i, hi1, rfl⟩ := List.mem_map.1 hel
      exact ⟨n, _, (hf i (by have := List.mem_range.1 hi1; omega)).2⟩

theorem ones_of (els : List (List Value)) (h : ∀ el ∈ els, ∃ a : Int, el = [.int .i64 a] ∧ -9223372036854775808 ≤ a ∧ a ≤ 9223372036854775807) : ∃ xs : List Int, els.flatten = ints xs ∧ xs.length = els.length ∧ ∀ x ∈ xs, -9223372036854775808 ≤ x ∧ x ≤ 9223372036854775807 := by
  induction els with
  | nil => exact ⟨[], rfl, rfl, by simp⟩
  | cons el els ih =>
    obtain ⟨a, rfl, h1⟩ := h el (by simp)
    obtain ⟨xs, e1, e2, e3⟩ := ih (fun e he => h e (by simp [he]))
    refine ⟨a :: xs, by rw [List.flatten_cons, e1]; rfl, by simp [e2], fun x hx => ?_⟩
    rcases List.mem_cons.1 hx with rfl | hx
    · exact h1
    · exact e3 x hx

theorem inner_ints {t e : TypeId} {fuel : Nat} {cs : List Value} {x : DataW H × List MemPlace} (ht : P.underlying t = some (.slice e)) (he : P.underlying e = some (.int .i64)) (hsz : P.cellsOf e = 1)
    (h : DataW.trod enc P w base spare held fuel t cs = some x) :
    ∃ (A : Option Addr) (n c : Nat) (xs : List Int), cs = [.slice A n c] ∧ n ≤ c ∧ c ≤ maxLen ∧ Rd w 1 A n (ints xs) ∧ ∀ x ∈ xs, -9223372036854775808 ≤ x ∧ x ≤ 9223372036854775807 := by
  obtain ⟨A, n, c, els, h1, h2, h3, h4, h5, h6⟩ := inner_slice ht hsz (by omega) h
  obtain ⟨xs, e1, e2, e3⟩ := ones_of els (fun el hel => by obtain ⟨_, k, y, hy⟩ := h6 el hel; exact inner_int he hy)
  rw [e1] at h5
  exact ⟨A, n, c, xs, h1, h2, h3, h5, e3⟩

theorem outer_ints {r : Reach} {b0 : Nat} {t e : TypeId} {v : Value} {d : DataW H} {p : List MemPlace} (ht : P.underlying t = some (.slice e)) (he : P.underlying e = some (.int .i64)) (hsz : P.cellsOf e = 1)
    (hv : Value.okWide P w r b0 t v) (h : DataW.Trod enc P w base spare held t v d p) :
    ∃ (A : Option Addr) (n c : Nat) (xs : List Int), v = .slice A n c ∧ n ≤ c ∧ c ≤ maxLen ∧ Rd w 1 A n (ints xs) ∧ ∀ x ∈ xs, -9223372036854775808 ≤ x ∧ x ≤ 9223372036854775807 := by
  obtain ⟨fuel, hf⟩ := h
  obtain ⟨A, n, c, xs, h1, h2⟩ := inner_ints ht he hsz hf
  obtain ⟨A', n', c', rfl⟩ := okWide_slice ht hv
  simp [Value.cells] at h1
  obtain ⟨rfl, rfl, rfl⟩ := h1
  exact ⟨A', n', c', xs, rfl, h2⟩
end
end Go.Proofs.Ytbncmiglhjfcdaa
