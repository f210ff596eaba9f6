/-
  Graphs that are drawn (the reference's l21Graph and DrawGraph).
-/
import Derived.Test.YtmnbpamaiboghaaSdGx
import Derived.Test.YtmnbpamaiboghaaSdDg
import Derived.Test.YtmnbpamaiboghaaSdFo
namespace Go.Proofs.Ytmnbpamaiboghaa
set_option linter.unusedVariables false
set_option linter.unusedSimpArgs false
set_option maxRecDepth 100000
set_option maxHeartbeats 4000000
attribute [local irreducible] Fn
/-- One pair of nodes: an edge, or none. -/
def dgs (acyc : Bool) (a b : Nat) (s : List Edg × Cur) : List Edg × Cur :=
  if a = b ∨ (acyc = true ∧ b < a) ∨ 20 ≤ s.1.length then s
  else if cBelow s.2 2 = 0 then (s.1 ++ [((a : Int), (b : Int), 1 + cBelow (cu1 s.2) 3, ())], cu1 (cu1 s.2)) else (s.1, cu1 s.2)
def dgB (acyc : Bool) (a : Nat) (s : List Edg × Cur) : Nat → List Edg × Cur
  | 0 => s
  | b + 1 => dgs acyc a b (dgB acyc a s b)
def dgA (acyc : Bool) (n : Nat) (s : List Edg × Cur) : Nat → List Edg × Cur
  | 0 => s
  | a + 1 => dgB acyc a (dgA acyc n s a) n
def dgN (c : Cur) : Int := 2 + cBelow c 5
def dgG (acyc : Bool) (c : Cur) : List Edg × Cur := dgA acyc (dgN c).toNat ([], cu1 c) (dgN c).toNat
/-- The edges come in order. -/
structure DgI (n : Nat) (es : List Edg) (a b : Nat) : Prop where
  ok : ∀ i, i < es.length → EdgeOk ((n : Int) - 1) es i
  bd : ∀ i, i < es.length → (es.getD i default).1 < a ∨ (es.getD i default).1 = a ∧ (es.getD i default).2.1 < b
theorem snocE {es : List Edg} {x : Edg} {i : Nat} (h : i < es.length) : (es ++ [x]).getD i default = es.getD i default := by simp [List.getD_eq_getElem?_getD, List.getElem?_append_left h]
theorem DgI.step {n : Nat} {acyc : Bool} {a b : Nat} {s : List Edg × Cur} (h : DgI n s.1 a b) (ha : a < n) (hb : b < n) : DgI n (dgs acyc a b s).1 a (b + 1) := by
  have up : DgI n s.1 a (b + 1) := ⟨h.ok, fun i hi => by have := h.bd i hi; omega⟩
  unfold dgs
  split
  · exact up
  · rename_i hn
    split
    · refine ⟨fun i hi => ?_, fun i hi => ?_⟩
      · simp only [List.length_append, List.length_singleton] at hi
        by_cases e : i = s.1.length
        · subst e
          have e1 : (s.1 ++ [((a : Int), (b : Int), 1 + cBelow (cu1 s.2) 3, ())]).getD s.1.length default = ((a : Int), (b : Int), 1 + cBelow (cu1 s.2) 3, ()) := by simp [List.getD_eq_getElem?_getD]
          have d3 := cBelow_bd (c := cu1 s.2) (n := 3) (by omega)
          simp only [EdgeOk, e1]
          refine ⟨by omega, by omega, by omega, by omega, by omega, by omega, by omega, fun h0 => ?_⟩
          rw [snocE (by omega)]
          have := h.bd (s.1.length - 1) (by omega)
          unfold LessE
          simp only
          omega
        · have hi : i < s.1.length := by omega
          have := h.ok i hi
          simp only [EdgeOk] at this ⊢
          rw [snocE hi]
          refine ⟨this.1, this.2.1, this.2.2.1, this.2.2.2.1, this.2.2.2.2.1, this.2.2.2.2.2.1, this.2.2.2.2.2.2.1, fun h0 => ?_⟩
          rw [snocE (by omega)]
          exact this.2.2.2.2.2.2.2 h0
      · simp only [List.length_append, List.length_singleton] at hi
        by_cases e : i = s.1.length
        · subst e
          have e1 : (s.1 ++ [((a : Int), (b : Int), 1 + cBelow (cu1 s.2) 3, ())]).getD s.1.length default = ((a : Int), (b : Int), 1 + cBelow (cu1 s.2) 3, ()) := by simp [List.getD_eq_getElem?_getD]
          rw [e1]
          exact .inr ⟨rfl, by show (b : Int) < ((b + 1 : Nat) : Int); omega⟩
        · have hi : i < s.1.length := by omega
          rw [snocE hi]
          exact up.bd i hi
    · exact up
theorem DgI.row {n : Nat} {acyc : Bool} {a : Nat} {s : List Edg × Cur} (h : DgI n s.1 a 0) (ha : a < n) : ∀ b, b ≤ n → DgI n (dgB acyc a s b).1 a b
  | 0, _ => h
  | b + 1, hb => (DgI.row h ha b (by omega)).step ha (by omega)
theorem DgI.all {n : Nat} {acyc : Bool} {s : List Edg × Cur} (h : DgI n s.1 0 0) : ∀ a, a ≤ n → DgI n (dgA acyc n s a).1 a 0
  | 0, _ => h
  | a + 1, ha => by
    have := (DgI.all (acyc := acyc) (s := s) h a (by omega)).row (acyc := acyc) (by omega) n (Nat.le_refl _)
    exact ⟨this.ok, fun i hi => by have h1 := this.bd i hi; left; show ((dgB acyc a (dgA acyc n s a) n).1.getD i default).1 < (((a + 1 : Nat)) : Int); rcases h1 with h1 | h1 <;> omega⟩
/-- The graph that a code draws, and two nodes of it. -/
def dwC (code : List Int) : Cur := cu1 (cur0 code)
def dwB (code : List Int) : Bool := decide (cBelow (cur0 code) 2 = 0)
def dwG (code : List Int) : Gr := (dgN (dwC code), (dgG (dwB code) (dwC code)).1, ())
def dwK (code : List Int) : Cur := (dgG (dwB code) (dwC code)).2
def dwS (code : List Int) : Int := cBelow (dwK code) (dwG code).1
def dwT (code : List Int) : Int := cBelow (cu1 (dwK code)) (dwG code).1
theorem blt_no' (k : Nat) : Nat.blt k k = false := by
  cases hb : Nat.blt k k with
  | false => rfl
  | true => have := blt_pos hb; omega
theorem blt_of' {k i : Nat} (h : k < i) : Nat.blt k i = true := by rw [Nat.blt_eq]; exact h
theorem snoc_at {X : Type} [Inhabited X] {xs : List X} {x : X} {k : Nat} (h : k < xs.length) : (xs ++ [x]).getD k default = xs.getD k default := by simp [List.getD_eq_getElem?_getD, List.getElem?_append_left h]
theorem snoc_end {X : Type} [Inhabited X] {xs : List X} {x : X} : (xs ++ [x]).getD xs.length default = x := by simp [List.getD_eq_getElem?_getD]
attribute [local irreducible] cx cu1 cBelow
section
attribute [local irreducible] dgs dgB dgA
end
end Go.Proofs.Ytmnbpamaiboghaa
