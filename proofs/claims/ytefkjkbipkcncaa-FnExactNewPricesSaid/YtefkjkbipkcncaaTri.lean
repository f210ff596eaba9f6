/-
  Slices of structs of three integers: words and small lemmas.
-/
import Derived.Test.YtefkjkbipkcncaaInts
import Derived.Test.YtefkjkbipkcncaaOpen2
namespace Go.Proofs.Ytefkjkbipkcncaa
open Go.ChangeShapes Go.WideShapes Go.ChangeAt Go.RowKit
set_option linter.unusedVariables false

/-- Three integers. -/
structure Tri where
  a : Int
  b : Int
  c : Int
def Tri.cs (t : Tri) : List Value := [.int .i64 t.a, .int .i64 t.b, .int .i64 t.c]
def tris (es : List Tri) : List Value := es.flatMap Tri.cs
theorem tris_nil : tris [] = [] := rfl
theorem tris_append (xs ys : List Tri) : tris (xs ++ ys) = tris xs ++ tris ys := by simp [tris]
theorem tris_cons (x : Tri) (ys : List Tri) : tris (x :: ys) = x.cs ++ tris ys := by simp [tris]
theorem tris_len (es : List Tri) : (tris es).length = es.length * 3 := by
  induction es with
  | nil => rfl
  | cons e es ih => rw [tris_cons, List.length_append, ih]; simp [Tri.cs]; omega
theorem tris_one (es : List Tri) : ∀ u ∈ tris es, u.oneCell' = true := by
  intro u hu
  obtain ⟨e, _, he⟩ := List.mem_flatMap.1 hu
  simp only [Tri.cs, List.mem_cons, List.not_mem_nil, or_false] at he
  rcases he with rfl | rfl | rfl <;> rfl
theorem tris_get (es : List Tri) (k : Nat) (e : Tri) (h : es[k]? = some e) : (tris es)[k * 3]? = some (.int .i64 e.a) ∧ (tris es)[k * 3 + 1]? = some (.int .i64 e.b) ∧ (tris es)[k * 3 + 2]? = some (.int .i64 e.c) := by
  have hk : k < es.length := (List.getElem?_eq_some_iff.1 h).1
  have hsp : es = es.take k ++ e :: es.drop (k + 1) := by
    rw [← (List.getElem?_eq_some_iff.1 h).2, ← List.drop_eq_getElem_cons hk, List.take_append_drop]
  have hl : (tris (es.take k)).length = k * 3 := by rw [tris_len, List.length_take]; congr 1; omega
  rw [hsp, tris_append, tris_cons]
  refine ⟨?_, ?_, ?_⟩
  · rw [List.getElem?_append_right (by omega), hl]; simp [Tri.cs]
  · rw [List.getElem?_append_right (by omega), hl]; simp [Tri.cs]
  · rw [List.getElem?_append_right (by omega), hl]; simp [Tri.cs]
theorem Rd.tri {w : World} {A : Option Addr} {n k : Nat} {es : List Tri} (h : Rd w 3 A n (tris es)) (hk : k < n) :
    ∃ b o e, A = some ⟨b, o, none⟩ ∧ b < w.heap.size ∧ es[k]? = some e ∧ w.cell? ⟨b, o + k * 3, none⟩ = some (.int .i64 e.a) ∧ w.cell? ⟨b, o + k * 3 + 1, none⟩ = some (.int .i64 e.b) ∧ w.cell? ⟨b, o + k * 3 + 2, none⟩ = some (.int .i64 e.c) := by
  obtain ⟨b, o, e, hb, hc⟩ := h.2 (by omega)
  have hl : es.length = n := by have := h.1; rw [tris_len] at this; omega
  have hx : es[k]? = some (es[k]'(by omega)) := List.getElem?_eq_getElem (by omega)
  obtain ⟨h1, h2, h3⟩ := tris_get es k _ hx
  exact ⟨b, o, _, e, hb, hx, hc _ _ h1, hc _ _ h2, hc _ _ h3⟩
theorem Rd.trilen {w : World} {A : Option Addr} {n : Nat} {es : List Tri} (h : Rd w 3 A n (tris es)) : es.length = n := by have := h.1; rw [tris_len] at this; omega

theorem tris_of (els : List (List Value)) (h : ∀ el ∈ els, ∃ a b c : Int, el = [.int .i64 a, .int .i64 b, .int .i64 c] ∧ I64 a ∧ I64 b ∧ I64 c) :
    ∃ es : List Tri, els.flatten = tris es ∧ ∀ e ∈ es, I64 e.a ∧ I64 e.b ∧ I64 e.c := by
  induction els with
  | nil => exact ⟨[], rfl, by simp⟩
  | cons el els ih =>
    obtain ⟨a, b, c, rfl, h1⟩ := h el (by simp)
    obtain ⟨es, e1, e3⟩ := ih (fun e he => h e (by simp [he]))
    refine ⟨⟨a, b, c⟩ :: es, by rw [List.flatten_cons, e1]; rfl, fun x hx => ?_⟩
    rcases List.mem_cons.1 hx with rfl | hx
    · exact h1
    · exact e3 x hx

def zeroTri : Tri := ⟨0, 0, 0⟩
theorem made_tris (n : Nat) : (madeCells #[.int .i64 0, .int .i64 0, .int .i64 0] (n * 3)).toList = tris (List.replicate n zeroTri) := by
  apply List.ext_getElem?
  intro j
  have h3 : j % 3 = 0 ∨ j % 3 = 1 ∨ j % 3 = 2 := by omega
  by_cases hj : j < n * 3
  · have e : (List.replicate n zeroTri)[j / 3]? = some zeroTri := by rw [List.getElem?_replicate, if_pos (by omega)]
    obtain ⟨g1, g2, g3⟩ := tris_get _ _ _ e
    have ej : j = j / 3 * 3 + j % 3 := by omega
    have hm : (madeCells #[.int .i64 0, .int .i64 0, .int .i64 0] (n * 3)).toList[j]? = some (.int .i64 0) := by
      rcases h3 with h | h | h <;> simp [madeCells, hj, h]
    rw [hm]
    rcases h3 with h | h | h
    · rw [ej, h, Nat.add_zero, g1]; rfl
    · rw [ej, h, g2]; rfl
    · rw [ej, h, g3]; rfl
  · rw [List.getElem?_eq_none (by simp [madeCells]; omega), List.getElem?_eq_none (by rw [tris_len]; simp; omega)]

/-- One element stored, three cells. -/
theorem tris_set (es : List Tri) (k : Nat) (e : Tri) (hk : k < es.length) :
    (((tris es).set (k * 3) (.int .i64 e.a)).set (k * 3 + 1) (.int .i64 e.b)).set (k * 3 + 2) (.int .i64 e.c) = tris (es.set k e) := by
  have hl : (tris (es.take k)).length = k * 3 := by rw [tris_len, List.length_take]; congr 1; omega
  have hsp : es = es.take k ++ es[k] :: es.drop (k + 1) := by rw [← List.drop_eq_getElem_cons hk, List.take_append_drop]
  have hset : es.set k e = es.take k ++ e :: es.drop (k + 1) := by rw [List.set_eq_take_append_cons_drop, if_pos hk]
  rw [hset]
  conv => lhs; rw [hsp]
  rw [tris_append, tris_append, tris_cons, tris_cons]
  rw [List.set_append_right _ _ (by omega), hl, Nat.sub_self, List.set_append_right _ _ (by omega), hl, List.set_append_right _ _ (by omega), hl]
  simp [Tri.cs]

theorem take_set_tri (es : List Tri) (n k : Nat) (e : Tri) (hl : es.length = n) (hk : k < n) (he : es[k]? = some e) :
    (es.take k ++ List.replicate (n - k) zeroTri).set k e = es.take (k + 1) ++ List.replicate (n - (k + 1)) zeroTri := by
  have h1 : n - k = (n - (k + 1)) + 1 := by omega
  rw [h1, List.take_add_one, he, List.replicate_succ]
  have h3 : k - min k es.length = 0 := by omega
  rw [List.set_append_right _ _ (by simp; omega)]
  simp [h3]

def upTri (k : Int) (n : Nat) : List Tri := (List.range n).map fun (i : Nat) => ⟨k + 3 * (i : Int), k + 3 * (i : Int) + 1, k + 3 * (i : Int) + 1 + 1⟩
theorem upTri_get (k : Int) (n i : Nat) (h : i < n) : (upTri k n)[i]? = some ⟨k + 3 * (i : Int), k + 3 * (i : Int) + 1, k + 3 * (i : Int) + 1 + 1⟩ := by simp [upTri, h]
theorem upTri_set (k : Int) (xs : List Tri) (i : Nat) (h : i < xs.length) : (upTri k i ++ xs.drop i).set i ⟨k + 3 * (i : Int), k + 3 * (i : Int) + 1, k + 3 * (i : Int) + 1 + 1⟩ = upTri k (i + 1) ++ xs.drop (i + 1) := by
  rw [List.set_append_right _ _ (by simp [upTri]), show (upTri k i).length = i by simp [upTri], Nat.sub_self, List.drop_eq_getElem_cons h, List.set_cons_zero]
  simp [upTri, List.range_succ]
end Go.Proofs.Ytefkjkbipkcncaa
