/-
  What is reached; orders of nodes, in plain words.
-/
import Derived.Test.YtbepgedckfhifaaPsFl
import Derived.Test.YtbepgedckfhifaaPsFm
namespace Go.Proofs.Ytbepgedckfhifaa
set_option linter.unusedVariables false
set_option linter.unusedSimpArgs false
abbrev eAtT (g : Gr) (k : Nat) : Edg := g.2.1.getD k default
/-! ### what is reached -/
abbrev sAt (s : List Bool) (a : Int) : Bool := s.getD a.toNat false
def rstep (g : Gr) (s : List Bool) (i : Nat) : List Bool := if sAt s (eAtT g i).1 = true then s.set (eAtT g i).2.1.toNat true else s
def rpass (g : Gr) (s : List Bool) : Nat → List Bool
  | 0 => s
  | n + 1 => rstep g (rpass g s n) n
def rr (g : Gr) (s : List Bool) : Nat → List Bool
  | 0 => s
  | n + 1 => rpass g (rr g s n) g.2.1.length
def rstart (n : Nat) (l : List Int) : Nat → List Bool
  | 0 => List.replicate n false
  | k + 1 => (rstart n l k).set (l.getD k 0).toNat true
def reachL (g : Gr) (l : List Int) : List Bool := rr g (rstart g.1.toNat l l.length) g.1.toNat
def Closed1 (g : Gr) (s : List Bool) : Prop := ∀ k, k < g.2.1.length → sAt s (eAtT g k).1 = true → sAt s (eAtT g k).2.1 = true
def trues (s : List Bool) : Nat := (List.range s.length).countP fun b => s.getD b false
/-! ### no way round -/
def toL (g : Gr) (a : Int) (i : Nat) : List Int := ((eFrom g a).take i).map fun k => (eAtT g k.toNat).2.1
def tos (g : Gr) (a : Int) : List Int := toL g a (eFrom g a).length
def Acyc (g : Gr) : Prop := ∀ a : Nat, (a : Int) < g.1 → (reachL g (tos g a)).getD a false = false
/-! ### orders -/
def memI (xs : List Int) (x : Int) : Bool := xs.any fun y => decide (y = x)
def Rdy (g : Gr) (out : List Int) (a : Int) : Prop := a ∉ out ∧ ∀ k, k < g.2.1.length → (eAtT g k).2.1 = a → (eAtT g k).1 ∈ out
open Classical in
noncomputable def rdB (g : Gr) (out : List Int) (a : Int) : Bool := decide (Rdy g out a)
noncomputable def nextN (g : Gr) (out : List Int) : Option Nat := (List.range g.1.toNat).find? fun a : Nat => rdB g out (a : Int)
noncomputable def topR (g : Gr) : Nat → List Int
  | 0 => []
  | n + 1 => match nextN g (topR g n) with | some a => topR g n ++ [(a : Int)] | none => topR g n
structure TI (g : Gr) (out : List Int) : Prop where
  nd : out.Nodup
  rng : ∀ x ∈ out, 0 ≤ x ∧ x < g.1
  pre : ∀ j, j < out.length → ∀ k, k < g.2.1.length → (eAtT g k).2.1 = out.getD j 0 → ∃ i, i < j ∧ out.getD i 0 = (eAtT g k).1
theorem mem_getD {xs : List Int} {x : Int} (h : x ∈ xs) : ∃ i, i < xs.length ∧ xs.getD i 0 = x := by
  obtain ⟨i, hi, rfl⟩ := List.getElem_of_mem h
  exact ⟨i, hi, by rw [List.getD_eq_getElem?_getD, List.getElem?_eq_getElem hi]; rfl⟩
theorem TI.add {g : Gr} {out : List Int} {a : Nat} (h : TI g out) (ha : (a : Int) < g.1) (hr : Rdy g out a) : TI g (out ++ [(a : Int)]) := by
  refine ⟨?_, fun x hx => ?_, fun j hj k hk he => ?_⟩
  · rw [List.nodup_append]
    exact ⟨h.nd, by simp, fun x hx y hy => by simp at hy; rw [hy]; exact fun e => hr.1 (e ▸ hx)⟩
  · rcases List.mem_append.1 hx with hx | hx
    · exact h.rng x hx
    · simp only [List.mem_singleton] at hx; rw [hx]; omega
  · have g1 : ∀ i, i < out.length → (out ++ [(a : Int)]).getD i 0 = out.getD i 0 := fun i hi => by simp [List.getD_eq_getElem?_getD, List.getElem?_append_left hi]
    by_cases e : j = out.length
    · subst e
      have e2 : (out ++ [(a : Int)]).getD out.length 0 = a := by simp [List.getD_eq_getElem?_getD]
      rw [e2] at he
      obtain ⟨i, hi, hx⟩ := mem_getD (hr.2 k hk he)
      exact ⟨i, hi, by rw [g1 i hi]; exact hx⟩
    · have hj' : j < out.length := by simp at hj; omega
      rw [g1 j hj'] at he
      obtain ⟨i, hi, hx⟩ := h.pre j hj' k hk he
      exact ⟨i, hi, by rw [g1 i (by omega)]; exact hx⟩
theorem TI.len {g : Gr} {out : List Int} (h : TI g out) : out.length ≤ g.1.toNat := nodup_le g.1.toNat out h.nd (fun x hx => by have := h.rng x hx; omega)
theorem TI.all {g : Gr} {out : List Int} (h : TI g out) (hl : out.length = g.1.toNat) {x : Int} (h0 : 0 ≤ x) (h1 : x < g.1) : x ∈ out := by
  refine Classical.byContradiction (fun hn => ?_)
  have := nodup_le g.1.toNat (x :: out) (List.nodup_cons.2 ⟨hn, h.nd⟩) (fun y hy => by
    rcases List.mem_cons.1 hy with rfl | hy
    · omega
    · have := h.rng y hy; omega)
  simp at this
  omega
end Go.Proofs.Ytbepgedckfhifaa
