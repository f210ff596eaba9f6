/-
  Contracts of the old kind (worlds told by their cells) turned to contracts of the evaluator: the keyed hash, slices.Concat.
-/
import Derived.Test.YtbepgedckfhifaaGreatSuFa
import Derived.Test.YtbepgedckfhifaaGreatSuKeyed
import Derived.Test.YtbepgedckfhifaaGreatSuFj
namespace Go.Proofs.YtbepgedckfhifaaGreat
open Go.RowKit
set_option linter.unusedVariables false
set_option linter.unusedSimpArgs false
set_option maxRecDepth 100000
set_option maxHeartbeats 4000000
attribute [local irreducible] Fn
abbrev intsR (x : List Int) : AV := .cons (.ri false .i64 x) .nil
theorem fr_ext {b : Nat → Prop} {w w' : World} (h : Ext w w') : Fr b w w' := ⟨h.os, h.tape, h.output, h.size, fun k hk _ => h.block k hk⟩
theorem rd_ri {w : World} {own : Bool → Nat → Prop} {γ : Nm → Value} {xs : List Int} {m : Md} {f : Bool} {vs : List Value} (h : Reps w own γ (.ri f .i64 xs) m vs) : ∃ A cap, vs = [.slice A xs.length cap] ∧ Rd w 1 A xs.length (ints xs) := by
  obtain ⟨A, cap, e, hc, h1⟩ := h
  refine ⟨A, cap, e, by simp, fun hn => ?_⟩
  obtain ⟨bk, o, rfl, h2, _, h3⟩ := h1 hn
  refine ⟨bk, o, rfl, h2, fun j u hu => ?_⟩
  obtain ⟨x, hx, rfl⟩ := ints_get hu
  have hj : j < xs.length := (List.getElem?_eq_some_iff.1 hx).1
  rw [h3 j hj, List.getD_eq_getElem?_getD, hx]; rfl
theorem exists_list {X : Type} {p : Nat → X → Prop} : ∀ {n : Nat}, (∀ i, i < n → ∃ x, p i x) → ∃ l : List X, l.length = n ∧ ∀ i x, l[i]? = some x → p i x := by
  intro n
  induction n with
  | zero => intro _; exact ⟨[], rfl, fun i x h => by simp at h⟩
  | succ n ih =>
    intro h
    obtain ⟨l, h1, h2⟩ := ih (fun i hi => h i (by omega))
    obtain ⟨y, hy⟩ := h n (by omega)
    refine ⟨l ++ [y], by simp [h1], fun i x hx => ?_⟩
    by_cases e : i < l.length
    · rw [List.getElem?_append_left e] at hx; exact h2 i x hx
    · rw [List.getElem?_append_right (by omega)] at hx
      have h3 : i - l.length = 0 := by
        have := (List.getElem?_eq_some_iff.1 hx).1
        simp at this; omega
      rw [h3] at hx
      simp at hx
      have : i = n := by omega
      rw [this, ← hx]; exact hy
theorem rd_rs {w : World} {own : Bool → Nat → Prop} {γ : Nm → Value} {xss : List (List Int)} {m : Md} {f : Bool} {vs : List Value} (h : Reps w own γ (.rs f xss.length 1 (cellsA intsR xss)) m vs) :
    ∃ (A : Option Addr) (cap : Nat) (ss : List ISl), vs = [.slice A xss.length cap] ∧ Rd w 1 A xss.length (ss.map ISl.val) ∧ (∀ s ∈ ss, Rd w 1 s.A s.n (ints s.xs)) ∧ ss.map ISl.xs = xss := by
  obtain ⟨A, cap, e, hc, h1⟩ := h
  by_cases hn : 0 < xss.length
  · obtain ⟨bk, o, rfl, h2, _, h3⟩ := h1 hn
    have h4 : ∀ i, i < xss.length → ∃ s : ISl, s.xs = xss.getD i default ∧ w.cell? ⟨bk, o + i, none⟩ = some s.val ∧ Rd w 1 s.A s.n (ints s.xs) := fun i hi => by
      obtain ⟨u, h5, _, h6⟩ := h3 i 0 hi (by omega)
      obtain ⟨A', cap', h7, h8⟩ := rd_ri (show Reps w own γ (.ri false .i64 (xss.getD i default)) _ [u] from h6)
      have h7 : u = .slice A' (xss.getD i default).length cap' := by simpa using h7
      have e9 : o + (i * 1 + 0) = o + i := by omega
      rw [e9, h7] at h5
      exact ⟨⟨A', (xss.getD i default).length, cap', xss.getD i default⟩, rfl, h5, h8⟩
    obtain ⟨ss, k1, k2⟩ := exists_list h4
    refine ⟨_, cap, ss, e, ⟨by simp [k1], fun _ => ⟨bk, o, rfl, h2, fun j u hu => ?_⟩⟩, fun s hs => ?_, ?_⟩
    · rw [List.getElem?_map] at hu
      cases hx : ss[j]? with
      | none => rw [hx] at hu; cases hu
      | some s => rw [hx] at hu; cases hu; exact (k2 j s hx).2.1
    · obtain ⟨j, hj, rfl⟩ := List.getElem_of_mem hs
      exact (k2 j _ (List.getElem?_eq_getElem hj)).2.2
    · refine List.ext_getElem (by simp [k1]) (fun i h5 h6 => ?_)
      have h7 : i < ss.length := by simpa using h5
      rw [List.getElem_map, (k2 i _ (List.getElem?_eq_getElem h7)).1, List.getD_eq_getElem?_getD, List.getElem?_eq_getElem h6]; rfl
  · have h0 : xss = [] := List.eq_nil_of_length_eq_zero (by omega)
    subst h0
    exact ⟨A, cap, [], e, Rd.nil, fun s hs => (by cases hs), rfl⟩
theorem post_none {E : Ent0} {nw : Bool} {w' : World} {γ : Nm → Value} : Post E nw w' [] γ :=
  ⟨fun N x h => (by obtain ⟨_, h1, _⟩ := h; cases h1), fun N x bk h => (by obtain ⟨_, h1, _⟩ := h; cases h1), fun N M x y bk h => (by obtain ⟨_, h1, _⟩ := h; cases h1), fun M x N h => (by obtain ⟨_, h1, _⟩ := h; cases h1), fun L x _ h => by cases h⟩
theorem Fn_keyed {f : Nat} {φ : Int → List Int → Int} (hE : Ent Tryz.prog f) (hc : ∀ (key : Int) (A : Option Addr) (n c : Nat) (xs : List Int) (w : World), n ≤ 2199023255552 → Rd w 1 A n (ints xs) → Calls Tryz.prog f #[.int .i64 key, .slice A n c] w fun e w' => e = .returned (.int .i64 (φ key xs)) ∧ Ext w w')
    (key : Int) (xs : List Int) (h : xs.length ≤ 2199023255552) : Fn Tryz.prog f true (.cons (.int .i64 key) (.cons (.ri false .i64 xs) .nil)) [] (.int .i64 (φ key xs)) [] := by
  unfold Fn
  refine ⟨hE, fun E vs hP hr _ => ?_⟩
  obtain ⟨v, us, rfl, h1, v2, us2, rfl, h2, h3⟩ := hr
  obtain rfl : us2 = [] := h3
  obtain rfl : v = .int .i64 key := by simpa [Reps] using h1
  obtain ⟨A, cap, e, hrd⟩ := rd_ri h2
  obtain rfl : v2 = .slice A xs.length cap := by simpa using e
  refine (hc key A xs.length cap xs E.w h hrd).mono ?_
  rintro e w' ⟨rfl, hx⟩
  exact ⟨_, E.g, rfl, fr_ext hx, post_none, rfl, fun _ => trivial, fun N hN => hN.elim⟩
theorem post_row {E : Ent0} {nw : Bool} {w' : World} {T : Nat} {xs : List Int} {v : Value} (h : w'.ownsRow E.w.heap.size T 1 v xs.length (ints xs)) (hs : E.w.heap.size ≤ w'.heap.size) :
    Post E nw w' [(16, .row T (.ints .i64 xs))] (upd E.g (rt 16) v) := by
  have one : ∀ {N : Nm} {z : Blk}, AtL (lkx [(16, .row T (.ints .i64 xs))]) N z → N = rt 16 ∧ z = .row T (.ints .i64 xs) := by
    rintro ⟨r, p⟩ z ⟨x, h1, h2⟩
    simp only [lkx] at h1
    cases hb : Nat.beq 16 r with
    | false => rw [hb] at h1; cases h1
    | true =>
      rw [hb] at h1
      cases h1
      obtain rfl := Nat.eq_of_beq_eq_true hb
      cases p with
      | nil => exact ⟨rfl, h2⟩
      | cons q p =>
        obtain ⟨e, c, y, e1, h3, h4, h5, _⟩ := h2
        cases e1
        cases h5
  have hg : upd E.g (rt 16) v (rt 16) = v := upd_at _ _ _
  refine ⟨fun N x hN => ?_, fun N x bk hN hb => ?_, fun N M x y bk hN hM _ _ => by rw [(one hN).1, (one hM).1], fun M x N hM hN => ?_, fun L x hL hx => ?_⟩
  · obtain ⟨rfl, rfl⟩ := one hN
    refine ⟨?_, fun _ _ _ _ _ => trivial⟩
    obtain ⟨hl, ⟨e1, e2⟩ | ⟨g, cap, cur, e1, hge, hcells, hcap, hmax, hsz, htk⟩⟩ := h
    · exact .inl ⟨e2, none, by rw [hg, e1]⟩
    · by_cases h0 : cap = 0
      · subst h0
        have hz : xs.length = 0 := by omega
        exact .inl ⟨hz, _, by rw [hg, e1, hz]⟩
      · refine .inr ⟨g, 0, cap, cur.toList, by rw [hg, e1]; rfl, by omega, hcap, by rw [Array.toArray_toList]; exact hcells, by show 0 + cap * 1 ≤ _; simp; omega, fun k j hk hj => ?_⟩
        have hk : k < xs.length := hk
        have hj : j < 1 := hj
        obtain rfl : j = 0 := by omega
        refine ⟨.int .i64 (xs.getD k 0), ?_, rfl, rfl⟩
        show cur.toList[0 + (k * 1 + 0)]? = _
        have e9 : 0 + (k * 1 + 0) = k := by omega
        rw [e9]
        have h7 : (cur.toList.take (xs.length * 1))[k]? = (ints xs)[k]? := by rw [htk]
        rw [List.getElem?_take, if_pos (by omega)] at h7
        rw [h7, List.getElem?_map, List.getElem?_eq_getElem hk, List.getD_eq_getElem?_getD, List.getElem?_eq_getElem hk]; rfl
  · obtain ⟨rfl, rfl⟩ := one hN
    rw [hg] at hb
    obtain ⟨hl, ⟨e1, e2⟩ | ⟨g, cap, cur, e1, hge, hcells, _⟩⟩ := h
    · rw [e1] at hb; cases hb
    · rw [e1] at hb
      by_cases h0 : cap = 0
      · subst h0; cases hb
      · rw [blkOf_slice (by omega)] at hb
        have : g = bk := Option.some.inj hb
        subst this
        exact ⟨(Array.getElem?_eq_some_iff.1 hcells).1, .inl hge⟩
  · obtain ⟨rfl, rfl⟩ := one hM
    obtain ⟨i, j, _, _, h⟩ := hN
    exact h.elim
  · simp only [lkx] at hx
    cases hb : Nat.beq 16 L with
    | false => rw [hb] at hx; cases hx
    | true => have := Nat.eq_of_beq_eq_true hb; unfold low at hL; omega
theorem Fn_rows {f : Nat} {T : Nat} (hE : Ent Tryz.prog f) (hc : ∀ (A : Option Addr) (m c : Nat) (ss : List ISl) (w : World), m ≤ 1000 → Rd w 1 A m (ss.map ISl.val) → (∀ s ∈ ss, Rd w 1 s.A s.n (ints s.xs)) → (flat ss).length ≤ 4398046511104 → Calls Tryz.prog f #[.slice A m c] w (OwnPost w T 1 (flat ss).length (ints (flat ss))))
    (xss : List (List Int)) (h : xss.length ≤ 1000) (h2 : xss.flatten.length ≤ 4398046511104) : Fn Tryz.prog f true (.cons (.rs false xss.length 1 (cellsA intsR xss)) .nil) [] (.os (rt 16)) [(16, .row T (.ints .i64 xss.flatten))] := by
  unfold Fn
  refine ⟨hE, fun E vs hP hr _ => ?_⟩
  obtain ⟨v, us, rfl, h1, h3⟩ := hr
  obtain rfl : us = [] := h3
  obtain ⟨A, cap, ss, e, hrd, hss, hx⟩ := rd_rs h1
  obtain rfl : v = .slice A xss.length cap := by simpa using e
  have hfl : flat ss = xss.flatten := by rw [← hx]; simp [flat, List.flatMap]
  refine (hc A xss.length cap ss E.w h hrd hss (by rw [hfl]; exact h2)).mono ?_
  rintro e w' ⟨v, rfl, hown, hext⟩
  rw [hfl] at hown
  have hp := post_row (nw := true) hown hext.size
  refine ⟨v, _, rfl, fr_ext hext, hp, ⟨rfl, by rw [upd_at]⟩, fun _ => trivial, fun N hN => ?_⟩
  obtain rfl : rt 16 = N := hN
  exact ⟨_, _, rfl, rfl⟩
theorem iKh_fn (key : Int) (xs : List Int) (h : xs.length ≤ 4194304) : Fn Tryz.prog 82 true (.cons (.I key) (.cons (.ri false .i64 xs) .nil)) [] (.I (khash key xs)) [] :=
  Fn_keyed ⟨_, _, Tryz.func82, rfl, rfl⟩ (fun key A n c xs w hn hr => keyed_impl key A n c xs hn w hr) key xs (by omega)
theorem sKh_fn (key : Int) (xs : List Int) (h : xs.length ≤ 4194304) : Fn Tryz.prog 70 true (.cons (.I key) (.cons (.ri false .i64 xs) .nil)) [] (.I (khash key xs)) [] :=
  Fn_keyed ⟨_, _, Tryz.func70, rfl, rfl⟩ (fun key A n c xs w hn hr => keyed_spec key A n c xs hn w hr) key xs (by omega)
theorem concat_fn (xss : List (List Int)) (h : xss.length ≤ 1000) (h2 : xss.flatten.length ≤ 4194304) : Fn Tryz.prog 133 true (.cons (.rs false xss.length 1 (cellsA intsR xss)) .nil) [] (.os (rt 16)) [(16, .row 3 (.ints .i64 xss.flatten))] :=
  Fn_rows ⟨_, _, Tryz.func133, rfl, rfl⟩ (fun A m c ss w hm hr hss ht => concat_any A m c ss hm w hr hss ht) xss h (by omega)
end Go.Proofs.YtbepgedckfhifaaGreat
