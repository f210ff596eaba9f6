/-
  An operation that leaves old memory alone yields what is said: literals, slices, and all operations together.
-/
import Derived.Test.YtbncmiglhjfcdaaCf
namespace Go.Proofs.Ytbncmiglhjfcdaa
open Go.RowKit
set_option linter.unusedVariables false

theorem fold_set (off : Nat) : ∀ (vs : List Value) (k : Nat) (cells : Array Value), off + k + vs.length ≤ cells.size →
    (vs.zipIdx k).foldl (fun cs (x : Value × Nat) => cs.setIfInBounds (off + x.2) x.1) cells = (cells.toList.take (off + k) ++ vs ++ cells.toList.drop (off + k + vs.length)).toArray
  | [], k, cells, h => by simp
  | v :: vs, k, cells, h => by
    simp only [List.zipIdx_cons, List.foldl_cons, List.length_cons] at h ⊢
    rw [fold_set off vs (k + 1) _ (by simp; omega)]
    congr 1
    apply List.ext_getElem?
    intro m
    have hk : off + k < cells.size := by omega
    by_cases h1 : m < off + k
    · rw [List.getElem?_append_left (by simp; omega), List.getElem?_append_left (by simp; omega), List.getElem?_append_left (by simp; omega), List.getElem?_append_left (by simp; omega)]
      simp [h1, show m < off + (k + 1) by omega]
      rw [List.getElem?_set_ne (by omega)]
      simp
    · by_cases h2 : m = off + k
      · subst h2
        rw [List.getElem?_append_left (by simp; omega), List.getElem?_append_left (by simp; omega), List.getElem?_append_left (by simp; omega), List.getElem?_append_right (by simp; omega)]
        simp [show off + k < off + (k + 1) by omega, hk, Nat.min_eq_left (Nat.le_of_lt hk)]
      · by_cases h3 : m < off + (k + 1) + vs.length
        · rw [List.getElem?_append_left (by simp; omega), List.getElem?_append_right (by simp; omega), List.getElem?_append_left (by simp; omega), List.getElem?_append_right (by simp; omega)]
          simp [Nat.min_eq_left (Nat.le_of_lt hk), show min (off + (k + 1)) cells.size = off + (k + 1) by omega]
          rw [show m - (off + k) = (m - (off + (k + 1))) + 1 by omega, List.getElem?_cons_succ]
        · rw [List.getElem?_append_right (by simp; omega), List.getElem?_append_right (by simp; omega)]
          simp [List.getElem?_drop, Nat.min_eq_left (Nat.le_of_lt hk), show min (off + (k + 1)) cells.size = off + (k + 1) by omega]
          rw [List.getElem?_set_ne (by omega), show off + (k + 1) + vs.length + (m - (off + (k + 1) + vs.length)) = off + k + (vs.length + 1) + (m - (off + k + (vs.length + 1))) by omega]
          simp

section
variable {P : Program} {τ : List (Nat × TyI)} {E : Ent0} {w : World} {s : St} {act : Act} {γ : Nm → Value}

theorem fill_step {place : Nat → Option (Nat × Nat)} {cells : Array Value} {i off size : Nat} {v : Value} {rest : List (Nat × Value)} (hp : place i = some (off, size)) (hs : v.cells.size = size) (ho : off + size ≤ cells.size) :
    Instr.fill place cells ((i, v) :: rest) = Instr.fill place (cells.toList.take off ++ v.cells.toList ++ cells.toList.drop (off + size)).toArray rest := by
  subst hs
  have h1 : (v.cells.size ≠ v.cells.size || off + v.cells.size > cells.size) = false := by simp; omega
  simp only [Instr.fill, hp]
  rw [if_neg (by simp; omega)]
  congr 1
  have := fold_set off v.cells.toList 0 cells (by simpa using ho)
  simp only [Nat.add_zero, Array.length_toList] at this
  rw [← this, ← Array.foldl_toList]
  simp [Array.toList_zipIdx]

theorem fillA_sound (h : Sim E s act w γ) {flds : List (Nat × Nat)} {place : Nat → Option (Nat × Nat)} (hpl : ∀ i p, flds[i]? = some p → place i = some p) : ∀ (parts : List (Nat × Operand)) (l l' : AV) (us : List Value),
    Reps w (E.ow (s.own γ)) γ l .o us → s.live l → fillA flds l (parts.map fun p => (p.1, s.ev p.2)) = some l' →
    ∃ us', Instr.fill place us.toArray (parts.map fun p => (p.1, act.eval p.2)) = some (List.toArray us') ∧ Reps w (E.ow (s.own γ)) γ l' .o us' ∧ s.live l'
  | [], l, l', us, h1, h2, h3 => by
    simp only [List.map_nil, fillA] at h3
    cases h3
    exact ⟨us, by simp [Instr.fill], h1, h2⟩
  | (i, x) :: parts, l, l', us, h1, h2, h3 => by
    simp only [List.map_cons, fillA] at h3
    cases hf : flds[i]? with
    | none => rw [hf] at h3; cases h3
    | some p =>
      obtain ⟨o, z⟩ := p
      rw [hf] at h3
      simp only at h3
      cases hb : ((s.ev x).flat && Nat.beq (s.ev x).cells.len z && Nat.ble (o + z) l.len) with
      | false => rw [hb] at h3; cases h3
      | true =>
        rw [hb] at h3
        simp only [cond_true] at h3
        simp only [Bool.and_eq_true] at hb
        obtain ⟨⟨hfl, hz⟩, hle⟩ := hb
        have hz' := Nat.eq_of_beq_eq_true hz
        have hle' := Nat.le_of_ble_eq_true hle
        obtain ⟨hx, hlx⟩ := ev_sound h x
        obtain ⟨hc, _⟩ := hx.cells hfl (live_one h hlx)
        have hsz : (act.eval x).cells.size = z := by rw [← hz', ← hc.len]; simp
        have hus : us.length = l.len := h1.len
        have hsp := Reps.splice o h1 hc
        obtain ⟨us', h4, h5, h6⟩ := fillA_sound h hpl parts _ l' _ hsp (fun M hM => (has_splice hM).elim (h2 M) (fun hM => hlx M (has_cells hM))) h3
        refine ⟨us', ?_, h5, h6⟩
        rw [List.map_cons, fill_step (hpl i _ hf) hsz (by simp; omega), ← h4]
        simp [hsz]

theorem fldsB_mapM : ∀ {fs : List Field} {l : List (Nat × Nat)}, fldsB P fs l = true → fs.mapM (fun f => (P.info? f.type).map fun i => (f.offset, i.size)) = some l := by
  intro fs
  induction fs with
  | nil => intro l h; cases l with | nil => rfl | cons p l => cases h
  | cons f fs ih =>
    intro l h
    cases l with
    | nil => cases h
    | cons p l =>
      obtain ⟨o, z⟩ := p
      simp only [fldsB, Bool.and_eq_true, decide_eq_true_eq] at h
      cases hi : P.info? f.type with
      | none => rw [hi] at h; cases h.1.2
      | some inf =>
        rw [hi] at h
        have hz : inf.size = z := by simpa using h.1.2
        simp [List.mapM_cons, hi, ih h.2, h.1.1, hz]

theorem build_sound (h : Sim E s act w γ) {t : Nat} {i : TyI} (hi : tyChk P t i = true) (ha : i.agg = true) {parts : Array (Nat × Operand)} {l : AV}
    (hf : fillA i.flds i.zero (parts.toList.map fun p => (p.1, s.ev p.2)) = some l) :
    ∃ v, (Instr.build t (parts.map fun (i, x) => (i, act.eval x))).run P w = .ok v w ∧ Reps w (E.ow (s.own γ)) γ (.agg l) .o [v] ∧ s.live l := by
  obtain ⟨inf, z, h1, h2, h3, h4, h5⟩ := tyChk_info hi
  obtain ⟨fs, h6, h7⟩ := tyChk_struct hi ha
  obtain ⟨hz1, hz2, hz3⟩ := zeroB_spec (w := w) (own := E.ow (s.own γ)) (γ := γ) (ro := .o) h5
  obtain ⟨us, h8, h9, h10⟩ := fillA_sound h (place := fun i' => i.flds.toArray[i']?) (fun i' p hp => by simpa using hp) parts.toList _ _ _ hz1 (fun M hM => absurd hM (hz3 M)) hf
  refine ⟨.agg us.toArray, run_build w t _ _ ?_, ⟨us, rfl, h9⟩, h10⟩
  simp only [Program.built, h1, h6, h4, fldsB_mapM h7]
  rw [← h8]
  simp

theorem nth_app_l : ∀ {l m : AV} {j : Nat}, j < l.len → (l.app m).nth j = l.nth j := by
  intro l
  induction l with
  | nil => intro m j h; cases h
  | cons a l iha ihl => intro m j h; cases j with | zero => rfl | succ j => exact ihl (by simpa [AV.len] using h)
  | _ => intro m j h; simp only [AV.len] at h; obtain rfl : j = 0 := by omega
         rfl
theorem len_app : ∀ {l m : AV}, (l.app m).len = l.len + m.len := by
  intro l
  induction l with
  | nil => intro m; simp [AV.app, AV.len]
  | cons a l iha ihl => intro m; simp only [AV.app, AV.len, ihl]; omega
  | _ => intro m; simp only [AV.app, AV.len]; omega

theorem partsA_sound (h : Sim E s act w γ) {z : Nat} : ∀ (parts : List (Nat × Operand)) (k : Nat) (l : AV), partsA s z k parts = some l → ∀ (cells : List Value), cells.length = (k + parts.length) * z →
    ∃ us, Instr.fill (fun i => some (i * z, z)) cells.toArray (parts.map fun p => (p.1, act.eval p.2)) = some (cells.take (k * z) ++ us).toArray ∧ Reps w (E.ow (s.own γ)) γ l .o us ∧ s.live l ∧ (∀ u ∈ us, u.oneCell' = true) ∧ us.length = parts.length * z
  | [], k, l, hp, cells, hl => by
    simp only [partsA] at hp
    cases hp
    refine ⟨[], by simp [Instr.fill]; rw [List.take_of_length_le (by simpa using Nat.le_of_eq hl)], rfl, fun M hM => hM.elim, fun u hu => (by cases hu), by simp⟩
  | (i, x) :: parts, k, l, hp, cells, hl => by
    simp only [partsA] at hp
    cases hb : (Nat.beq i k && (s.ev x).flat && Nat.beq (s.ev x).cells.len z) with
    | false => rw [hb] at hp; cases hp
    | true =>
      rw [hb] at hp
      simp only [cond_true] at hp
      simp only [Bool.and_eq_true] at hb
      obtain ⟨⟨hik, hfl⟩, hz⟩ := hb
      obtain rfl := Nat.eq_of_beq_eq_true hik
      have hz' := Nat.eq_of_beq_eq_true hz
      cases hr : partsA s z (i + 1) parts with
      | none => rw [hr] at hp; cases hp
      | some m =>
        rw [hr] at hp
        cases hp
        obtain ⟨hx, hlx⟩ := ev_sound h x
        obtain ⟨hc, hc1⟩ := hx.cells hfl (live_one h hlx)
        have hsz : (act.eval x).cells.size = z := by rw [← hz', ← hc.len]; simp
        have hsz' : (act.eval x).cells.toList.length = z := by simpa using hsz
        simp only [List.length_cons] at hl
        have e1 : (i + (parts.length + 1)) * z = i * z + z + parts.length * z := by rw [Nat.add_mul, Nat.succ_mul]; omega
        have e2 : (i + 1) * z = i * z + z := Nat.succ_mul i z
        have e3 : (i + 1 + parts.length) * z = i * z + z + parts.length * z := by rw [Nat.add_mul, e2]
        obtain ⟨us, h4, h5, h6, h7, h8⟩ := partsA_sound h parts (i + 1) m hr (cells.take (i * z) ++ (act.eval x).cells.toList ++ cells.drop (i * z + z)) (by
          simp only [List.length_append, List.length_take, List.length_drop, hsz', e3]; rw [hl, e1]; omega)
        refine ⟨(act.eval x).cells.toList ++ us, ?_, hc.app h5, fun M hM => (has_app hM).elim (fun hM => hlx M (has_cells hM)) (h6 M), fun u hu => (List.mem_append.1 hu).elim (hc1 u) (h7 u), by
          simp only [List.length_append, hsz', h8, List.length_cons, Nat.succ_mul]; omega⟩
        rw [List.map_cons, fill_step rfl hsz (by simp; rw [hl, e1]; omega)]
        have ht : (cells.take (i * z) ++ (act.eval x).cells.toList ++ cells.drop (i * z + z)).take ((i + 1) * z) = cells.take (i * z) ++ (act.eval x).cells.toList := by
          rw [e2, List.take_append_of_le_length (by simp only [List.length_append, List.length_take, hsz']; omega), List.take_of_length_le (by simp only [List.length_append, List.length_take, hsz']; omega)]
        rw [ht] at h4
        rw [← List.append_assoc]
        exact h4

theorem intsOf_spec {k : IntKind} : ∀ {l : AV} {xs : List Int}, intsOf k l = some xs → l.len = xs.length ∧ ∀ i, i < xs.length → l.nth i = .int k (xs.getD i 0) := by
  intro l
  induction l with
  | nil => intro xs h; cases h; exact ⟨rfl, fun i hi => by cases hi⟩
  | cons a l iha ihl =>
    intro xs h
    cases a with
    | int q n =>
      simp only [intsOf] at h
      cases hd : decide (q = k) with
      | false => rw [hd] at h; cases h
      | true =>
        rw [hd] at h
        have hq := of_decide_eq_true hd
        cases hr : intsOf k l with
        | none => rw [hr] at h; cases h
        | some ys =>
          rw [hr] at h
          cases h
          obtain ⟨h1, h2⟩ := ihl hr
          refine ⟨by simp [AV.len, h1], fun i hi => ?_⟩
          cases i with
          | zero => subst hq; rfl
          | succ i => exact (h2 i (by simpa using hi)).trans (by simp)
    | _ => cases h
  | _ => intro xs h; cases h

/-- What a row is to hold is held. -/
theorem ctOf_spec (zero : AV) {z n : Nat} {l : AV} (hl : l.len = n * z) (hz : 0 < z) (h1 : zero.len = z) : (ctOf zero z n l).len = n ∧ (ctOf zero z n l).st = z ∧ ∀ k j, k < n → j < z → (ctOf zero z n l).cell k j = l.nth (k * z + j) := by
  unfold ctOf
  split
  · simp only [AV.len] at h1
    subst h1
    split
    · rename_i k xs hx
      obtain ⟨h2, h3⟩ := intsOf_spec hx
      have hn : xs.length = n := by omega
      refine ⟨hn, rfl, fun i j hi hj => ?_⟩
      obtain rfl : j = 0 := by omega
      rw [Nat.mul_one, Nat.add_zero, h3 i (by omega)]
      rfl
    · exact ⟨rfl, rfl, fun _ _ _ _ => rfl⟩
  · exact ⟨rfl, rfl, fun _ _ _ _ => rfl⟩
theorem zeroCt_spec (zero : AV) {z n : Nat} (hz : 0 < z) (h1 : zero.len = z) : (zeroCt zero z n).len = n ∧ (zeroCt zero z n).st = z ∧ ∀ k j, k < n → j < z → (zeroCt zero z n).cell k j = zero.nth j ∨ ((zeroCt zero z n).cell k j = .b false ∧ zero.nth j = .ff) := by
  unfold zeroCt
  split
  · simp only [AV.len] at h1
    subst h1
    refine ⟨by simp [Ct.len], rfl, fun k j hk hj => .inl ?_⟩
    obtain rfl : j = 0 := by omega
    simp [Ct.cell, ci, AV.nth, hk]
  · simp only [AV.len] at h1
    subst h1
    refine ⟨by simp [Ct.len], rfl, fun k j hk hj => .inr ?_⟩
    obtain rfl : j = 0 := by omega
    simp [Ct.cell, cb, AV.nth, hk]
  · exact ⟨rfl, rfl, fun _ _ _ _ => .inl rfl⟩
theorem zero_len {a : AV} {vs : List Value} (h : zeroB a vs = true) : a.len = vs.length := ((zeroB_spec (w := default) (own := fun _ _ => False) (γ := fun _ => undef) (ro := .r false) h).1.len).symm
end
end Go.Proofs.Ytbncmiglhjfcdaa
