/-
  The indices of edges.
-/
import Derived.Test.YtefkjkbipkcncaaTri
namespace Go.Proofs.Ytefkjkbipkcncaa
open Go.ChangeShapes Go.WideShapes Go.ChangeAt Go.RowKit
set_option linter.unusedVariables false

theorem fm_congr {α β : Type} {f g : α → Option β} : ∀ (l : List α), (∀ x ∈ l, f x = g x) → l.filterMap f = l.filterMap g
  | [], _ => rfl
  | a :: l, h => by rw [List.filterMap_cons, List.filterMap_cons, h a (by simp), fm_congr l (fun x hx => h x (by simp [hx]))]
def selAt (p : Tri → Bool) (es : List Tri) (i : Nat) : Option Int := match es[i]? with
  | some e => if p e = true then some (i : Int) else none
  | none => none
/-- The indices of the edges that p takes. -/
def selIdx (p : Tri → Bool) (es : List Tri) : List Int := (List.range es.length).filterMap (selAt p es)
theorem sel_take (p : Tri → Bool) (es : List Tri) (k : Nat) (e : Tri) (h : es[k]? = some e) : selIdx p (es.take (k + 1)) = selIdx p (es.take k) ++ (if p e = true then [(k : Int)] else []) := by
  have hk : k < es.length := (List.getElem?_eq_some_iff.1 h).1
  unfold selIdx
  rw [List.length_take, List.length_take, show min (k + 1) es.length = k + 1 by omega, show min k es.length = k by omega, List.range_succ, List.filterMap_append]
  congr 1
  · apply fm_congr
    intro i hi
    have hi' : i < k := List.mem_range.1 hi
    unfold selAt
    rw [List.getElem?_take, List.getElem?_take, if_pos (by omega), if_pos hi']
  · have h1 : selAt p (es.take (k + 1)) k = if p e = true then some (k : Int) else none := by
      unfold selAt
      rw [List.getElem?_take, if_pos (by omega), h]
    rw [List.filterMap_cons, h1]
    cases p e <;> simp
theorem sel_len (p : Tri → Bool) (es : List Tri) : (selIdx p es).length ≤ es.length := by
  have := List.length_filterMap_le (selAt p es) (List.range es.length)
  simpa [selIdx] using this
theorem sel_mem {p : Tri → Bool} {es : List Tri} {x : Int} (h : x ∈ selIdx p es) : ∃ (i : Nat) (e : Tri), x = i ∧ es[i]? = some e ∧ p e = true ∧ i < es.length := by
  obtain ⟨i, hi, hx⟩ := List.mem_filterMap.1 h
  have hi' := List.mem_range.1 hi
  unfold selAt at hx
  cases he : es[i]? with
  | none => rw [he] at hx; simp at hx
  | some e =>
    rw [he] at hx
    by_cases hp : p e = true
    · simp [hp] at hx; exact ⟨i, e, hx.symm, he, hp, hi'⟩
    · simp [hp] at hx


end Go.Proofs.Ytefkjkbipkcncaa
