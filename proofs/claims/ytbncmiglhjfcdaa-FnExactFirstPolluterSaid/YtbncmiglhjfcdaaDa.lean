/-
  An operation that leaves old memory alone looks at its operands, and at the blocks that they speak of, alone.
-/
import Derived.Test.YtbncmiglhjfcdaaCy
namespace Go.Proofs.Ytbncmiglhjfcdaa
open Go.RowKit
set_option linter.unusedVariables false

def nbL (d : Nat) : Option Blk → List (Nat × Option Blk)
  | none => []
  | some x => [(nm d, some x)]
def St.ap (s : St) (d : Nat) (A : AV) (bs : List (Nat × Option Blk)) : St := ⟨(d, A) :: s.slots, bs ++ s.store, s.n⟩
/-- What s0 tells of a block that is there in s is so. -/
def Agr (s0 s : St) : Prop := ∀ N x, s.lv N → s0.blk N = some x → s.blk N = some x
/-- The operation, carried out, leaves A in its slot, and makes the blocks bs. -/
inductive QStep (P : Program) (τ : List (Nat × TyI)) (s0 s : St) (o : Oper) (d : Nat) : AV → List (Nat × Option Blk) → Prop where
  | mkq {a nb} : d < s.n → Yields (q τ (nm d) s o.op) a nb → (nb = none ∨ s.rblk (nm d) = none) → QStep P τ s0 s o d a.res (nbL d nb)
  | mkc {g args nw a0 r σ} : d < s.n → q τ (nm d) s o.op = .call g args → Fn P g nw a0 [] r σ → callB s [] d σ = true → Agr s0 s → arg s0 [] nw 3 false args a0 →
      QStep P τ s0 s o d (r.rn (ren [] d)).res (newB (ren [] d) σ)

section
variable {P : Program} {τ : List (Nat × TyI)} {sf : List Nat} {E : Ent0} {w : World} {s s' s0 : St} {a : Act} {γ : Nm → Value}

theorem opVC_inv {o : Oper} {K : St → Prop} (h : opVC P τ (some sf) o s K) (hs : solidB sf o = false) : ∃ d A bs, o.dst = some d ∧ QStep P τ s s o d A bs ∧ K (s.ap d A bs) := by
  unfold opVC at h
  cases hd : o.dst with
  | none => simp [solidB, hd] at hs
  | some d =>
    rw [hd] at h
    simp only at h
    cases hb : Nat.blt d s.n with
    | false => rw [hb] at h; exact h.elim
    | true =>
      rw [hb] at h
      simp only [cond_true] at h
      have hdn : d < s.n := blt_pos hb
      have quiet : ∀ {x : AV} {nb : Option Blk}, Yields (q τ (nm d) s o.op) x nb → (nb = none ∨ s.rblk (nm d) = none) → K ((s.addB (nm d) nb).put d x.res) → ∃ d' A bs, some d = some d' ∧ QStep P τ s s o d' A bs ∧ K (s.ap d' A bs) := by
        intro x nb hy hL hK
        exact ⟨d, _, _, rfl, .mkq hdn hy hL, by cases nb <;> exact hK⟩
      split at h
      · rename_i x hq
        exact quiet (nb := none) (by rw [hq]; exact .val) (.inl rfl) (forceB_iff h)
      · rename_i p x hq
        exact quiet (nb := none) (by rw [hq]; exact .cond h.1) (.inl rfl) (forceB_iff h.2.out)
      · rename_i k n hq
        rcases h with ⟨h1, ⟨h2⟩⟩ | h2
        · exact quiet (x := .int k n) (nb := none) (by rw [hq]; exact .ari h1) (.inl rfl) h2
        · exact quiet (x := .int k (k.wrap n)) (nb := none) (by rw [hq]; exact .arw) (.inl rfl) h2.out
      · rename_i m n f hq
        obtain ⟨k, h1, h2, ⟨h3⟩⟩ := h
        exact quiet (nb := none) (by rw [hq]; exact .idx h1 h2) (.inl rfl) (forceB_iff h3)
      · rename_i x y z hq
        cases hx : x with
        | true => exact quiet (nb := none) (by rw [hq]; exact .splitT hx) (.inl rfl) (forceB_iff (h.1 hx).out)
        | false => exact quiet (nb := none) (by rw [hq]; exact .splitF hx) (.inl rfl) (forceB_iff (h.2 hx).out)
      · rename_i x y hq
        split at h
        · rename_i hbl
          rw [forceX_eq] at h
          exact quiet (nb := some x) (by rw [hq]; exact .new) (.inr hbl) (forceB_iff h)
        · exact h.elim
      · rename_i m c f y hq
        split at h
        · rename_i hbl
          obtain ⟨n, k, h1, h2, h3, h4, ⟨h5⟩⟩ := h
          exact quiet (nb := some (f n)) (by rw [hq]; exact .mk h1 h2 h3 h4) (.inr hbl) (forceB_iff h5)
        · exact h.elim
      · rename_i lo hi n f hq
        obtain ⟨l, h', h1, h2, h3, h4, ⟨h5⟩⟩ := h
        exact quiet (nb := none) (by rw [hq]; exact .slc h1 h2 h3 h4) (.inl rfl) (forceB_iff h5)
      · rename_i g args hq
        obtain ⟨nw, ns, a0, σ0, r, σ, hF, hcb, hle, har, ⟨hK⟩⟩ := h
        simp only [Bool.and_eq_true, allow, hs, Bool.or_false] at hcb
        obtain rfl : ns = [] := by simpa using hcb.2
        obtain rfl : σ0 = [] := by cases σ0 with | nil => rfl | cons p l => exact hle.elim
        exact ⟨d, _, _, rfl, .mkc hdn hq hF hcb.1 (fun _ _ _ e => e) har, forceB_iff hK⟩
      · split at h
        · rename_i c ho
          unfold appVC at h
          split at h
          · rename_i x y t t' hcal hargs htys
            simp [solidB, hd, ho, hcal] at hs
          · exact h.elim
        · exact h.elim
        · exact h.elim
        · exact h.elim

theorem QStep.sound (hτ : TyOk P τ) {o : Oper} {d : Nat} {A : AV} {bs : List (Nat × Option Blk)} {Q : Exit → Act → World → Prop} (h : QStep P τ s0 s o d A bs) (hd : o.dst = some d) (hs : Sim E s a w γ) :
    o.wp P a w (fun a' w' => Den E (s.ap d A bs) a' w') Q := by
  have hlow : low ≤ nm d := by unfold nm low; omega
  cases h with
  | mkq hdn hy hL =>
    rename_i x nb
    obtain ⟨v, w', γ', h1, h2, h3, h4⟩ := q_sound hτ hs hy (hL.imp id (fun h => ⟨h, hlow⟩))
    unfold Oper.wp
    rw [h1]
    show Den E _ (a.put o.dst v) w'
    rw [hd]
    have := h2.put (by cases nb <;> exact hdn) h3.res (fun M hM => h4 M (has_res hM))
    cases nb <;> exact ⟨γ', this⟩
  | mkc hdn hq hF hcb hag har =>
    rename_i g args nw a0 r σ
    obtain ⟨c, f, caps, ho, hc, hf, hargs⟩ := q_call hq
    unfold callB at hcb
    simp only [Bool.and_eq_true] at hcb
    obtain ⟨⟨⟨b1, b2⟩, b3⟩, b4⟩ := hcb
    have hok : CallOk s [] d nw args a0 [] σ := by
      refine ⟨List.nodup_nil, Nat.zero_le _, trivial, ⟨s0, hag, har⟩, ?_, fun k N y hN => by simp at hN, fun k N hN => by simp at hN⟩
      refine lkx_all (fun q hq => ?_)
      have := (List.all_eq_true.1 b3) q hq
      simp only [Bool.or_eq_true, Bool.and_eq_true] at this
      rcases this with h3 | ⟨h3, h4⟩
      · exact .inl (by rw [Nat.blt_eq] at h3; exact h3)
      · exact .inr ⟨Nat.le_of_ble_eq_true h3, Option.isNone_iff_eq_none.1 h4⟩
    refine callVC_sound ho hc hf hargs hs hF hok (fun v w' γ' h2 h3 h4 => ⟨γ', ?_⟩)
    rw [hd]
    exact h2.put (by rw [← h2.size, hs.size]; exact hdn) h3.res (fun M hM => h4 M (has_res hM))

/-- What both states hold they hold alike; what the second speaks of it holds. -/
structure Agree (s s' : St) : Prop where
  both : ∀ L x y, s.rblk L = some x → s'.rblk L = some y → x = y
  wf : s'.WF
theorem Agree.agr (h : Agree s s') : Agr s s' := by
  rintro N x ⟨z, y, hy, _⟩ hb
  unfold St.blk at hb ⊢
  cases hr : s.rblk N.r with
  | none => rw [hr] at hb; cases hb
  | some y0 =>
    rw [hr] at hb
    obtain rfl := h.both N.r y0 y hr hy
    rw [hy]; exact hb
theorem Agree.blk (h : Agree s s') {x : AV} (hl : s'.live x) {L : Nm} (hL : x.has L) {y : Blk} (hy : s.blk L = some y) : s'.blk L = some y := h.agr L y (hl L hL) hy

theorem loadA_local (h : Agree s s') {x : AV} (hl : s'.live x) {agg : Bool} {size : Nat} {b : AV} {nb : Option Blk} (hy : Yields (loadA s agg size x) b nb) : Yields (loadA s' agg size x) b nb := by
  cases x with
  | op L j =>
    simp only [loadA] at hy ⊢
    cases hb : s.blk L with
    | none => rw [hb] at hy; cases hy
    | some y => rw [h.blk hl rfl hb]; rw [hb] at hy; exact hy
  | oe L st k j =>
    simp only [loadA] at hy ⊢
    cases hb : s.blk L with
    | none => rw [hb] at hy; cases hy
    | some y => rw [h.blk hl rfl hb]; rw [hb] at hy; exact hy
  | _ => exact hy
theorem lenA_local (h : Agree s s') {kd : Nat} {x : AV} (hl : s'.live x) {b : AV} {nb : Option Blk} (hy : Yields (lenA s kd x) b nb) : Yields (lenA s' kd x) b nb := by
  cases x with
  | os L =>
    simp only [lenA] at hy ⊢
    cases hk : Nat.beq kd 0 with
    | false => rw [hk] at hy; cases hy
    | true =>
      rw [hk] at hy
      simp only [cond_true] at hy ⊢
      cases hb : s.blk L with
      | none => rw [hb] at hy; cases hy
      | some y => rw [h.blk hl rfl hb]; rw [hb] at hy; exact hy
  | om L =>
    simp only [lenA] at hy ⊢
    cases hk : Nat.beq kd 1 with
    | false => rw [hk] at hy; cases hy
    | true =>
      rw [hk] at hy
      simp only [cond_true] at hy ⊢
      cases hb : s.blk L with
      | none => rw [hb] at hy; cases hy
      | some y => rw [h.blk hl rfl hb]; rw [hb] at hy; exact hy
  | _ => exact hy
theorem slice0A_local (h : Agree s s') {x : AV} {lo : Option AV} {hi mx : AV} (hl : s'.live x) {b : AV} {nb : Option Blk} (hy : Yields (slice0A s x lo hi mx) b nb) : Yields (slice0A s' x lo hi mx) b nb := by
  unfold slice0A at hy ⊢
  split at hy
  · rename_i q n q' n'
    cases hc : (decide (n = 0) && decide (n' = 0)) with
    | false => rw [hc] at hy; cases hy
    | true =>
      rw [hc] at hy
      simp only [cond_true] at hy ⊢
      cases x with
      | os L =>
        simp only at hy ⊢
        cases hb : s.blk L with
        | none => rw [hb] at hy; cases hy
        | some y => rw [h.blk hl rfl hb]; rw [hb] at hy; exact hy
      | _ => exact hy
  · cases hy
theorem lkA_local (h : Agree s s') {t : Nat} {z : Option Mc} {x ix : AV} {ok : Bool} (hl : s'.live x) {b : AV} {nb : Option Blk} (hy : Yields (lkA s t z x ix ok) b nb) : Yields (lkA s' t z x ix ok) b nb := by
  unfold lkA at hy ⊢
  split at hy
  · rename_i N n
    cases hb : s.blk N with
    | none => rw [hb] at hy; cases hy
    | some y => rw [h.blk hl rfl hb]; rw [hb] at hy; exact hy
  · cases hy
theorem idxA_local (h : Agree s s') {x ix : AV} (hl : s'.live x) {z : Nat} {b : AV} {nb : Option Blk} (hy : Yields (idxA s z x ix) b nb) : Yields (idxA s' z x ix) b nb := by
  unfold idxA at hy ⊢
  cases ix with
  | int q m =>
    cases x with
    | os L =>
      simp only at hy ⊢
      cases hb : s.blk L with
      | none => rw [hb] at hy; cases hy
      | some y => rw [h.blk hl rfl hb]; rw [hb] at hy; exact hy
    | _ => exact hy
  | _ => exact hy
theorem evs_local : ∀ {l : List Operand}, (∀ x ∈ l, s.ev x = s'.ev x) → s.evs l = s'.evs l
  | [], _ => rfl
  | x :: l, h => by simp only [St.evs]; rw [h x (by simp), evs_local (fun y hy => h y (by simp [hy]))]
theorem partsA_local {z : Nat} : ∀ {l : List (Nat × Operand)} {k : Nat}, (∀ p ∈ l, s.ev p.2 = s'.ev p.2) → partsA s z k l = partsA s' z k l
  | [], k, _ => rfl
  | (i, x) :: l, k, h => by
    simp only [partsA]
    rw [h (i, x) (by simp), partsA_local (k := k + 1) (fun p hp => h p (by simp [hp]))]

set_option maxHeartbeats 1000000 in
theorem q_local (h : Agree s s') {L : Nat} {o : Op} (he : ∀ x ∈ o.operands, s.ev x = s'.ev x) (hlv : ∀ x, s'.live (s'.ev x)) {b : AV} {nb : Option Blk} (hy : Yields (q τ L s o) b nb) : Yields (q τ L s' o) b nb := by
  have loc : ∀ {x : Operand}, x ∈ o.operands → s.ev x = s'.ev x := fun {x} hx => he x hx
  cases o with
  | move x => simp only [q] at hy ⊢; rw [← loc (by simp [Op.operands])]; exact hy
  | assign x => simp only [q] at hy ⊢; rw [← loc (by simp [Op.operands])]; exact hy
  | pick c x y => simp only [q] at hy ⊢; rw [← loc (x := c) (by simp [Op.operands]), ← loc (x := x) (by simp [Op.operands]), ← loc (x := y) (by simp [Op.operands])]; exact hy
  | alloc t => exact hy
  | box t x => simp only [q] at hy ⊢; rw [← loc (by simp [Op.operands])]; exact hy
  | load t x =>
    simp only [q] at hy ⊢
    rw [loc (x := x) (by simp [Op.operands])] at hy
    split at hy
    · exact loadA_local h (hlv x) hy
    · cases hy
  | fieldAddr t x f => simp only [q] at hy ⊢; rw [← loc (by simp [Op.operands])]; exact hy
  | indexAddr t x ix =>
    simp only [q] at hy ⊢
    rw [loc (x := x) (by simp [Op.operands]), loc (x := ix) (by simp [Op.operands])] at hy
    split at hy
    · rename_i i hi
      split at hy
      · rename_i e hel
        cases hz : Nat.blt 0 i.elem with
        | false => rw [hz] at hy; cases hy
        | true => rw [hz] at hy; exact idxA_local h (hlv x) hy
      · cases hy
    · cases hy
  | binOp op t x y t' => simp only [q] at hy ⊢; rw [← loc (x := x) (by simp [Op.operands]), ← loc (x := y) (by simp [Op.operands])]; exact hy
  | nilCheck x => simp only [q] at hy ⊢; rw [← loc (x := x) (by simp [Op.operands])]; exact hy
  | convert src dst x => simp only [q] at hy ⊢; rw [← loc (x := x) (by simp [Op.operands])]; exact hy
  | makeMap t r =>
    cases r with
    | none => exact hy
    | some y => exact hy
  | lookup t x ix ok =>
    simp only [q] at hy ⊢
    rw [loc (x := x) (by simp [Op.operands]), loc (x := ix) (by simp [Op.operands])] at hy
    split at hy
    · rename_i i hi
      split at hy
      · rename_i k e hm
        split at hy
        · rename_i ki ei h1 h2
          cases hz : (decide (ki.ik = some .i64) && !ei.agg) with
          | false => rw [hz] at hy; cases hy
          | true => rw [hz] at hy; exact lkA_local h (hlv x) hy
        · cases hy
      · cases hy
    · cases hy
  | unOp op t x =>
    cases op with
    | not => simp only [q] at hy ⊢; rw [← loc (by simp [Op.operands])]; exact hy
    | _ => exact hy
  | extract x n => simp only [q] at hy ⊢; rw [← loc (by simp [Op.operands])]; exact hy
  | build t parts =>
    simp only [q] at hy ⊢
    have e : (parts.toList.map fun p => (p.1, s.ev p.2)) = parts.toList.map fun p => (p.1, s'.ev p.2) := List.map_congr_left (fun p hp => by rw [loc (by simp only [Op.operands]; simp; exact ⟨p.1, by simpa using hp⟩)])
    rw [← e]; exact hy
  | buildSlice t len parts =>
    simp only [q] at hy ⊢
    have e : ∀ z, partsA s z 0 parts.toList = partsA s' z 0 parts.toList := fun z => partsA_local (fun p hp => loc (by simp only [Op.operands]; simp; exact ⟨p.1, by simpa using hp⟩))
    simp only [← e]; exact hy
  | makeSlice t l c => simp only [q] at hy ⊢; rw [← loc (x := l) (by simp [Op.operands]), ← loc (x := c) (by simp [Op.operands])]; exact hy
  | slice t x lo hi mx =>
    have e1 : lo.map s.ev = lo.map s'.ev := by cases lo with | none => rfl | some y => simp only [Option.map_some]; rw [loc (x := y) (by simp [Op.operands])]
    cases mx with
    | some m =>
      cases hi with
      | none => exact hy
      | some z =>
        simp only [q] at hy ⊢
        rw [loc (x := x) (by simp [Op.operands]), loc (x := z) (by simp [Op.operands]), loc (x := m) (by simp [Op.operands]), e1] at hy
        split at hy
        · rename_i i hi'
          split at hy
          · rename_i e he'
            cases hz : Nat.blt 0 i.elem with
            | false => rw [hz] at hy; cases hy
            | true => rw [hz] at hy; exact slice0A_local h (hlv x) hy
          · cases hy
        · cases hy
    | none =>
      simp only [q] at hy ⊢
      have e2 : hi.map s.ev = hi.map s'.ev := by cases hi with | none => rfl | some y => simp only [Option.map_some]; rw [loc (x := y) (by simp [Op.operands])]
      rw [← loc (x := x) (by simp [Op.operands]), ← e1, ← e2]; exact hy
  | makeFunc fn first caps =>
    cases fn with
    | func f =>
      simp only [q] at hy ⊢
      rw [← evs_local (fun x hx => loc (x := x) (by simp only [Op.operands]; simp; exact .inr (by simpa using hx)))]; exact hy
    | _ => exact hy
  | call c =>
    simp only [q] at hy ⊢
    split at hy
    · rename_i hcal
      split at hy
      · rename_i x t hx ht
        rw [loc (x := x) (by simp only [Op.operands, Call.operands, hcal]; simp; rw [← Array.mem_toList_iff, hx]; simp)] at hy
        split at hy
        · rename_i i hi
          exact lenA_local h (hlv x) hy
        · cases hy
      · cases hy
    · rename_i hcal
      split at hy
      · rename_i x y hx
        rw [loc (x := x) (by simp only [Op.operands, Call.operands, hcal]; simp; rw [← Array.mem_toList_iff, hx]; simp), loc (x := y) (by simp only [Op.operands, Call.operands, hcal]; simp; rw [← Array.mem_toList_iff, hx]; simp)] at hy
        exact hy
      · cases hy
    · rename_i hcal
      split at hy
      · rename_i x y hx
        rw [loc (x := x) (by simp only [Op.operands, Call.operands, hcal]; simp; rw [← Array.mem_toList_iff, hx]; simp), loc (x := y) (by simp only [Op.operands, Call.operands, hcal]; simp; rw [← Array.mem_toList_iff, hx]; simp)] at hy
        exact hy
      · cases hy
    · split at hy <;> cases hy
    · cases hy
  | _ => exact hy
end
end Go.Proofs.Ytbncmiglhjfcdaa
