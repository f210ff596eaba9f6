/-
  Regions that draw their order: whatever order is picked leads to the state that the text's order leads to.
-/
import Derived.Test.YtbncmiglhjfcdaaDb
namespace Go.Proofs.Ytbncmiglhjfcdaa
open Go.RowKit
set_option linter.unusedVariables false

/-- The slots that an operation looks at or writes. -/
def touches (ops : Array Oper) (o : Oper) : List Nat :=
  o.dst.toList ++ (o.op.operands.toList.filterMap fun | .tmp t => some t | _ => none) ++ (match o.guard with | some (g, _) => ((ops[g]?).bind (·.dst)).toList | none => [])
def maskOf (B : List Nat) (o : Oper) : Nat := o.after.toList.foldl (fun m e => if Region.binds .any e then m ||| 2 ^ e.on ||| B.getD e.on 0 else m) 0
/-- B: for each operation those that come ahead of it. -/
def certB (l : List Oper) (B : List Nat) : Bool := l.zipIdx.all fun (o, i) => Nat.beq (B.getD i 0) (maskOf B o) && o.after.toList.all fun e => !Region.binds .any e || Nat.blt e.on i
def ordB (B : List Nat) (i j : Nat) : Bool := (B.getD (max i j) 0).testBit (min i j)
def apartB (sf : List Nat) (ops : Array Oper) (l : List Oper) (B : List Nat) : Bool :=
  l.zipIdx.all fun (o, i) => l.zipIdx.all fun (o', j) => Nat.beq i j || ((!(solidB sf o) || ordB B i j) && (match o'.dst with | some t => !((touches ops o).contains t) || ordB B i j | none => true))
def drawB (sf : List Nat) (ops : Array Oper) : Bool := let B := (Region.before ops).toList; certB ops.toList B && apartB sf ops ops.toList B

theorem mask_spec {B : List Nat} {k : Nat} : ∀ (l : List Edge) (m : Nat), (l.foldl (fun m e => if Region.binds .any e then m ||| 2 ^ e.on ||| B.getD e.on 0 else m) m).testBit k = true → m.testBit k = true ∨ ∃ e ∈ l, Region.binds .any e = true ∧ (e.on = k ∨ (B.getD e.on 0).testBit k = true)
  | [], m, h => .inl h
  | e :: l, m, h => by
    rw [List.foldl_cons] at h
    rcases mask_spec l _ h with h1 | ⟨e', h1, h2, h3⟩
    · by_cases hb : Region.binds .any e = true
      · rw [if_pos hb, Nat.testBit_or, Nat.testBit_or] at h1
        simp only [Bool.or_eq_true] at h1
        rcases h1 with (h1 | h1) | h1
        · exact .inl h1
        · rw [Nat.testBit_two_pow] at h1
          exact .inr ⟨e, by simp, hb, .inl (by simpa using h1)⟩
        · exact .inr ⟨e, by simp, hb, .inr h1⟩
      · rw [if_neg hb] at h1; exact .inl h1
    · exact .inr ⟨e', by simp [h1], h2, h3⟩

section
variable {P : Program} {τ : List (Nat × TyI)} {sf : List Nat} {ops : Array Oper}

def Lst (listed : Array Bool) (k : Nat) : Prop := listed.getD k false = true
structure Closed (ops : Array Oper) (listed : Array Bool) : Prop where
  size : listed.size = ops.size
  edges : ∀ k o, ops[k]? = some o → Lst listed k → ∀ e ∈ o.after, Region.binds .any e = true → Lst listed e.on
theorem cert_at {B : List Nat} (h : certB ops.toList B = true) {i : Nat} {o : Oper} (hi : ops[i]? = some o) : B.getD i 0 = maskOf B o ∧ ∀ e ∈ o.after, Region.binds .any e = true → e.on < i := by
  have hm : (o, i) ∈ ops.toList.zipIdx := by
    rw [List.mem_zipIdx_iff_getElem?]
    simpa using hi
  have := (List.all_eq_true.1 h) _ hm
  simp only [Bool.and_eq_true, List.all_eq_true] at this
  refine ⟨Nat.eq_of_beq_eq_true this.1, fun e he hb => ?_⟩
  have h2 := this.2 e (by simpa using he)
  rw [hb] at h2
  exact blt_pos (by simpa using h2)
/-- What comes ahead of an operation all of whose edges are listed is listed. -/
theorem ahead_listed {B : List Nat} (hB : certB ops.toList B = true) {listed : Array Bool} (hc : Closed ops listed) : ∀ (i : Nat) (o : Oper), ops[i]? = some o → (∀ e ∈ o.after, Region.binds .any e = true → Lst listed e.on) → ∀ k, (B.getD i 0).testBit k = true → Lst listed k := by
  intro i
  induction i using Nat.strongRecOn with
  | _ i ih =>
    intro o hi he k hk
    obtain ⟨h1, h2⟩ := cert_at hB hi
    rw [h1] at hk
    rcases mask_spec _ _ hk with h3 | ⟨e, h3, h4, h5⟩
    · simp at h3
    · have h3' : e ∈ o.after := by simpa using h3
      rcases h5 with rfl | h5
      · exact he e h3' h4
      · have hl := he e h3' h4
        have hlt := h2 e h3' h4
        have hs : e.on < ops.size := by
          have := (Array.getElem?_eq_some_iff.1 hi).1; omega
        obtain ⟨o', ho'⟩ : ∃ o', ops[e.on]? = some o' := ⟨ops[e.on], Array.getElem?_eq_getElem hs⟩
        exact ih e.on hlt o' ho' (hc.edges e.on o' ho' hl) k h5
theorem apart_at {B : List Nat} (h : apartB sf ops ops.toList B = true) {i j : Nat} {o o' : Oper} (hi : ops[i]? = some o) (hj : ops[j]? = some o') (hij : i ≠ j) :
    (solidB sf o = true → ordB B i j = true) ∧ ∀ t, o'.dst = some t → t ∈ touches ops o → ordB B i j = true := by
  have m1 : (o, i) ∈ ops.toList.zipIdx := by rw [List.mem_zipIdx_iff_getElem?]; simpa using hi
  have m2 : (o', j) ∈ ops.toList.zipIdx := by rw [List.mem_zipIdx_iff_getElem?]; simpa using hj
  have := (List.all_eq_true.1 ((List.all_eq_true.1 h) _ m1)) _ m2
  simp only [Bool.or_eq_true, Bool.and_eq_true] at this
  rcases this with h1 | ⟨h1, h2⟩
  · exact absurd (Nat.eq_of_beq_eq_true h1) hij
  · refine ⟨fun hs => ?_, fun t ht hm => ?_⟩
    · rcases h1 with h1 | h1
      · rw [hs] at h1; cases h1
      · exact h1
    · rw [ht] at h2
      simp only [Bool.or_eq_true] at h2
      rcases h2 with h2 | h2
      · simp at h2; exact absurd hm h2
      · exact h2
/-- Operation i may come up now; j is ordered with it: it is listed if and only if it stands ahead in the text. -/
theorem ord_listed {B : List Nat} (hB : certB ops.toList B = true) {listed : Array Bool} (hc : Closed ops listed) {i j : Nat} {o o' : Oper} (hi : ops[i]? = some o) (hj : ops[j]? = some o') (hij : i ≠ j) (hun : ¬ Lst listed i)
    (hr : ∀ e ∈ o.after, Region.binds .any e = true → Lst listed e.on) (h : ordB B i j = true) : (j < i → Lst listed j) ∧ (Lst listed j → j < i) := by
  unfold ordB at h
  rcases Nat.lt_or_gt_of_ne hij with hlt | hgt
  · rw [Nat.max_eq_right (Nat.le_of_lt hlt), Nat.min_eq_left (Nat.le_of_lt hlt)] at h
    refine ⟨fun h1 => by omega, fun hl => ?_⟩
    exact absurd (ahead_listed hB hc j o' hj (hc.edges j o' hj hl) i h) hun
  · rw [Nat.max_eq_left (Nat.le_of_lt hgt), Nat.min_eq_right (Nat.le_of_lt hgt)] at h
    exact ⟨fun _ => ahead_listed hB hc i o hi hr j h, fun _ => hgt⟩

theorem den_congr {E : Ent0} {s s' : St} {a : Act} {w : World} (h1 : ∀ t, s.slot t = s'.slot t) (h2 : ∀ L, s.rblk L = s'.rblk L) (h3 : s.n = s'.n) (hd : Den E s a w) : Den E s' a w := by
  obtain ⟨γ, h⟩ := hd
  have e : s.rblk = s'.rblk := funext h2
  have ha : s'.at = s.at := by unfold St.at; rw [e]
  have hl : s'.lv = s.lv := by unfold St.lv; rw [ha]
  have ho : s'.own γ = s.own γ := by unfold St.own; rw [ha]
  have hli : s'.live = s.live := by unfold St.live; rw [hl]
  refine ⟨γ, by rw [← h3]; exact h.size, h.defers, fun t => ?_, fun N x hN => ?_, fun N x bk hN hb => h.mine N x bk (by rw [← ha]; exact hN) hb, fun N M x y bk hN hM hb hc => h.inj N M x y bk (by rw [← ha]; exact hN) (by rw [← ha]; exact hM) hb hc, ⟨fun t => ?_, fun M x N hM hN => ?_⟩, fun L hL hv => h.hd L hL (by rw [← hl]; exact hv), h.fr⟩
  · rw [ho, ← h1]; exact h.slots t
  · rw [ho]; exact h.blks N x (by rw [← ha]; exact hN)
  · rw [← h1, hli]; exact h.wf.slot t
  · rw [hl]; exact h.wf.blk M x N (by rw [← ha]; exact hM) hN
theorem lkb_app {b l : List (Nat × Option Blk)} (h : ∀ p ∈ b, p.2.isSome = true) (L : Nat) : lkb (b ++ l) L = match lkb b L with | some x => some x | none => lkb l L := by
  induction b with
  | nil => rfl
  | cons p b ih =>
    simp only [List.cons_append, lkb]
    cases hb : Nat.beq p.1 L with
    | true =>
      obtain ⟨x, hx⟩ := Option.isSome_iff_exists.1 (h p (by simp))
      simp [hx]
    | false => simp only [cond_false]; exact ih (fun q hq => h q (by simp [hq]))

variable (st : Nat → St) (A : Nat → AV) (bs : Nat → List (Nat × Option Blk))
def Wr (ops : Array Oper) (k t : Nat) : Prop := ∃ o, ops[k]? = some o ∧ o.dst = some t
/-- From st m on the operations D, none of them solid, have come up. -/
structure Spec (ops : Array Oper) (m : Nat) (D : Nat → Prop) (t : St) : Prop where
  n : t.n = (st m).n
  slot : ∀ r, (∃ k, D k ∧ Wr ops k r ∧ (∀ k', D k' → Wr ops k' r → k' ≤ k) ∧ t.slot r = A k) ∨ ((∀ k, D k → ¬ Wr ops k r) ∧ t.slot r = (st m).slot r)
  blk : ∀ L x, t.rblk L = some x ↔ ((st m).rblk L = some x ∨ ∃ k, D k ∧ lkb (bs k) L = some x)
variable {st A bs}
theorem Spec.same {m : Nat} {D : Nat → Prop} {t t' : St} (h : Spec st A bs ops m D t) (h' : Spec st A bs ops m D t') {E : Ent0} {a : Act} {w : World} (hd : Den E t a w) : Den E t' a w := by
  refine den_congr (fun r => ?_) (fun L => ?_) (h.n.trans h'.n.symm) hd
  · rcases h.slot r with ⟨k, h1, h2, h3, h4⟩ | ⟨h1, h2⟩ <;> rcases h'.slot r with ⟨k', g1, g2, g3, g4⟩ | ⟨g1, g2⟩
    · have e : k = k' := by have := h3 k' g1 g2; have := g3 k h1 h2; omega
      subst e; rw [h4, g4]
    · exact absurd h2 (g1 k h1)
    · exact absurd g2 (h1 k' g1)
    · rw [h2, g2]
  · cases hb : t.rblk L with
    | some x => exact ((h'.blk L x).2 ((h.blk L x).1 hb)).symm
    | none =>
      cases hb' : t'.rblk L with
      | none => rfl
      | some x => rw [(h.blk L x).2 ((h'.blk L x).1 hb')] at hb; cases hb

/-- Not solid from m to i. -/
def Soft (sf : List Nat) (ops : Array Oper) (m i : Nat) : Prop := ∀ k o, m ≤ k → k < i → ops[k]? = some o → solidB sf o = false

theorem Spec.ap {m i : Nat} {D : Nat → Prop} {t : St} (h : Spec st A bs ops m D t) {o : Oper} {d : Nat} (hi : ops[i]? = some o) (hd : o.dst = some d) (hlt : ∀ k, D k → Wr ops k d → k ≤ i) (hsome : ∀ p ∈ bs i, p.2.isSome = true)
    (hf : ∀ L x, lkb (bs i) L = some x → t.rblk L = none) : Spec st A bs ops m (fun k => D k ∨ k = i) (t.ap d (A i) (bs i)) := by
  have wi : ∀ r, Wr ops i r → r = d := fun r ⟨o', h1, h2⟩ => by rw [hi] at h1; cases h1; rw [hd] at h2; cases h2; rfl
  refine ⟨h.n, fun r => ?_, fun L x => ?_⟩
  · have e : (t.ap d (A i) (bs i)).slot r = if d = r then A i else t.slot r := St.slot_put t d r (A i)
    by_cases hr : d = r
    · subst hr
      exact .inl ⟨i, .inr rfl, ⟨o, hi, hd⟩, fun k' hk' hw => hk'.elim (fun h1 => hlt k' h1 hw) (fun h1 => by omega), by rw [e, if_pos rfl]⟩
    · rw [e, if_neg hr]
      rcases h.slot r with ⟨k, h1, h2, h3, h4⟩ | ⟨h1, h2⟩
      · exact .inl ⟨k, .inl h1, h2, fun k' hk' hw => hk'.elim (fun h5 => h3 k' h5 hw) (fun h5 => absurd (wi r (h5 ▸ hw)) (Ne.symm hr)), h4⟩
      · exact .inr ⟨fun k hk hw => hk.elim (fun h5 => h1 k h5 hw) (fun h5 => hr (wi r (h5 ▸ hw)).symm), h2⟩
  · have e : (t.ap d (A i) (bs i)).rblk L = match lkb (bs i) L with | some x => some x | none => t.rblk L := lkb_app hsome L
    rw [e]
    cases hb : lkb (bs i) L with
    | some y =>
      constructor
      · intro h1; cases h1; exact .inr ⟨i, .inr rfl, hb⟩
      · rintro (h1 | ⟨k, hk, h1⟩)
        · have := (h.blk L x).2 (.inl h1); rw [hf L y hb] at this; cases this
        · rcases hk with hk | rfl
          · have := (h.blk L x).2 (.inr ⟨k, hk, h1⟩); rw [hf L y hb] at this; cases this
          · rw [hb] at h1; exact h1
    | none =>
      refine ⟨fun h1 => ((h.blk L x).1 h1).imp id (fun ⟨k, hk, h2⟩ => ⟨k, .inl hk, h2⟩), ?_⟩
      rintro (h1 | ⟨k, hk, h1⟩)
      · exact (h.blk L x).2 (.inl h1)
      · rcases hk with hk | rfl
        · exact (h.blk L x).2 (.inr ⟨k, hk, h1⟩)
        · rw [hb] at h1; cases h1

theorem Spec.congr {m : Nat} {D D' : Nat → Prop} {t : St} (h : Spec st A bs ops m D t) (hD : ∀ k, D k ↔ D' k) : Spec st A bs ops m D' t := by
  have : D = D' := funext fun k => propext (hD k)
  exact this ▸ h

theorem soft_step (hT : ∀ i, i < ops.size → Tstep P τ sf ops i (st i) (st (i + 1)) (A i) (bs i)) {i : Nat} {o : Oper} (hi : ops[i]? = some o) (hs : solidB sf o = false) :
    ∃ d, o.dst = some d ∧ Lstep P τ ops (st i) (st i) o d (A i) (bs i) ∧ st (i + 1) = (st i).ap d (A i) (bs i) := by
  obtain ⟨o', h1, h2⟩ := hT i (Array.getElem?_eq_some_iff.1 hi).1
  rw [hi] at h1
  cases h1
  rcases h2 with ⟨h2, _⟩ | ⟨_, h2⟩
  · rw [hs] at h2; cases h2
  · exact h2
/-- The text's own order. -/
theorem spec_text (hT : ∀ i, i < ops.size → Tstep P τ sf ops i (st i) (st (i + 1)) (A i) (bs i)) (m : Nat) : ∀ i, m ≤ i → i ≤ ops.size → Soft sf ops m i → Spec st A bs ops m (fun k => m ≤ k ∧ k < i) (st i) := by
  intro i
  induction i with
  | zero =>
    intro h1 _ _
    have : m = 0 := by omega
    subst this
    exact ⟨rfl, fun r => .inr ⟨fun k hk => by omega, rfl⟩, fun L x => ⟨.inl, fun h => h.elim id (fun ⟨k, hk, _⟩ => by omega)⟩⟩
  | succ i ih =>
    intro h1 h2 hs
    by_cases hm : m = i + 1
    · subst hm
      exact ⟨rfl, fun r => .inr ⟨fun k hk => by omega, rfl⟩, fun L x => ⟨.inl, fun h => h.elim id (fun ⟨k, hk, _⟩ => by omega)⟩⟩
    · have hi : ops[i]? = some ops[i] := Array.getElem?_eq_getElem (by omega)
      obtain ⟨d, hd, hL, e⟩ := soft_step hT hi (hs i _ (by omega) (by omega) hi)
      have hp := ih (by omega) (by omega) (fun k o h3 h4 h5 => hs k o h3 (by omega) h5)
      obtain ⟨f1, f2, f3⟩ := hL.fresh
      have := hp.ap hi hd (fun k hk _ => by omega) f2 f3
      rw [← e] at this
      exact this.congr (fun k => by omega)
end
end Go.Proofs.Ytbncmiglhjfcdaa
