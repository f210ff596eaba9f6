/-
  Contracts of the old kind (worlds told by their cells) turned to contracts of the evaluator: the keyed hash, slices.Concat.
-/
import Derived.Test.YtbepgedckfhifaaGreatFiFa
import Derived.Test.YtbepgedckfhifaaGreatFiKeyed
import Derived.Test.YtbepgedckfhifaaGreatFiFj
namespace Go.Proofs.YtbepgedckfhifaaGreat
open Go.RowKit
set_option linter.unusedVariables false
set_option linter.unusedSimpArgs false
set_option maxRecDepth 100000
set_option maxHeartbeats 4000000
attribute [local irreducible] Fn
abbrev intsR (x : List Int) : AV := .cons (.ri false .i64 x) .nil
theorem fr_ext {b : Nat → Prop} {w w' : World} (h : Ext w w') : Fr b w w' := ⟨h.os, h.tape, h.output, h.size, fun k hk _ => h.block k hk⟩
theorem rd_ri {w : World} {own : Bool → Nat → Prop} {γ : Nm → Value} {xs : List Int} {m : Md} {f : Bool} {vs : List Value} (h : Reps w own γ (.ri f .i64 xs) m vs) : ∃ A cap, vs = [.slice A xs.length cap] ∧ Rd w 1 A xs.length (ints xs) := by
  obtain ⟨A, cap, e, hc, h1⟩ := h
  refine ⟨A, cap, e, by simp, fun hn => ?_⟩
  obtain ⟨bk, o, rfl, h2, _, h3⟩ := h1 hn
  refine ⟨bk, o, rfl, h2, fun j u hu => ?_⟩
  obtain ⟨x, hx, rfl⟩ := ints_get hu
  have hj : j < xs.length := (List.getElem?_eq_some_iff.1 hx).1
  rw [h3 j hj, List.getD_eq_getElem?_getD, hx]; rfl
theorem post_none {E : Ent0} {nw : Bool} {w' : World} {γ : Nm → Value} : Post E nw w' [] γ :=
  ⟨fun N x h => (by obtain ⟨_, h1, _⟩ := h; cases h1), fun N x bk h => (by obtain ⟨_, h1, _⟩ := h; cases h1), fun N M x y bk h => (by obtain ⟨_, h1, _⟩ := h; cases h1), fun M x N h => (by obtain ⟨_, h1, _⟩ := h; cases h1), fun L x _ h => by cases h⟩
theorem Fn_keyed {f : Nat} {φ : Int → List Int → Int} (hE : Ent Tryz.prog f) (hc : ∀ (key : Int) (A : Option Addr) (n c : Nat) (xs : List Int) (w : World), n ≤ 2199023255552 → Rd w 1 A n (ints xs) → Calls Tryz.prog f #[.int .i64 key, .slice A n c] w fun e w' => e = .returned (.int .i64 (φ key xs)) ∧ Ext w w')
    (key : Int) (xs : List Int) (h : xs.length ≤ 2199023255552) : Fn Tryz.prog f true (.cons (.int .i64 key) (.cons (.ri false .i64 xs) .nil)) [] (.int .i64 (φ key xs)) [] := by
  unfold Fn
  refine ⟨hE, fun E vs hP hr _ => ?_⟩
  obtain ⟨v, us, rfl, h1, v2, us2, rfl, h2, h3⟩ := hr
  obtain rfl : us2 = [] := h3
  obtain rfl : v = .int .i64 key := by simpa [Reps] using h1
  obtain ⟨A, cap, e, hrd⟩ := rd_ri h2
  obtain rfl : v2 = .slice A xs.length cap := by simpa using e
  refine (hc key A xs.length cap xs E.w h hrd).mono ?_
  rintro e w' ⟨rfl, hx⟩
  exact ⟨_, E.g, rfl, fr_ext hx, post_none, rfl, fun _ => trivial, fun N hN => hN.elim⟩
theorem iKh_fn (key : Int) (xs : List Int) (h : xs.length ≤ 4194304) : Fn Tryz.prog 82 true (.cons (.I key) (.cons (.ri false .i64 xs) .nil)) [] (.I (khash key xs)) [] :=
  Fn_keyed ⟨_, _, Tryz.func82, rfl, rfl⟩ (fun key A n c xs w hn hr => keyed_impl key A n c xs hn w hr) key xs (by omega)
theorem sKh_fn (key : Int) (xs : List Int) (h : xs.length ≤ 4194304) : Fn Tryz.prog 70 true (.cons (.I key) (.cons (.ri false .i64 xs) .nil)) [] (.I (khash key xs)) [] :=
  Fn_keyed ⟨_, _, Tryz.func70, rfl, rfl⟩ (fun key A n c xs w hn hr => keyed_spec key A n c xs hn w hr) key xs (by omega)
end Go.Proofs.YtbepgedckfhifaaGreat
