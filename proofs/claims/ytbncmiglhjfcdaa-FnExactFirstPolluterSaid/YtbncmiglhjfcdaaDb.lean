/-
  Regions that draw their order: the text's order serves for every order.
-/
import Derived.Test.YtbncmiglhjfcdaaDa
namespace Go.Proofs.Ytbncmiglhjfcdaa
open Go.RowKit
set_option linter.unusedVariables false

section
variable {P : Program} {τ : List (Nat × TyI)} {sf : List Nat} {E : Ent0} {w : World} {s s' s0 : St} {a : Act} {γ : Nm → Value}

theorem newB_of {d L : Nat} {y : Blk} : ∀ {σ : List (Nat × Blk)}, lkb (newB (ren [] d) σ) L = some y → ∃ p ∈ σ, low ≤ p.1 ∧ L = p.1 + d * 16
  | [], h => by cases h
  | p :: σ, h => by
    unfold newB at h
    cases hb : Nat.blt p.1 low with
    | true => rw [hb] at h; obtain ⟨q, h1, h2⟩ := newB_of (σ := σ) h; exact ⟨q, by simp [h1], h2⟩
    | false =>
      rw [hb] at h
      have hlow : low ≤ p.1 := by
        rcases Nat.lt_or_ge p.1 low with h1 | h1
        · rw [show Nat.blt p.1 low = true by rw [Nat.blt_eq]; exact h1] at hb; cases hb
        · exact h1
      have h' : (bif Nat.beq (ren [] d p.1).r L then some (p.2.rn (ren [] d)) else lkb (newB (ren [] d) σ) L) = some y := h
      rw [ren_high hlow] at h'
      cases he : Nat.beq (rt (p.1 + d * 16)).r L with
      | true => exact ⟨p, by simp, hlow, (Nat.eq_of_beq_eq_true he).symm⟩
      | false => rw [he] at h'; obtain ⟨q, h1, h2⟩ := newB_of (σ := σ) h'; exact ⟨q, by simp [h1], h2⟩
theorem newB_isSome {d : Nat} : ∀ {σ : List (Nat × Blk)}, ∀ p ∈ newB (ren [] d) σ, p.2.isSome = true
  | [], p, h => by cases h
  | q :: σ, p, h => by
    unfold newB at h
    cases hb : Nat.blt q.1 low with
    | true => rw [hb] at h; exact newB_isSome (σ := σ) p h
    | false =>
      rw [hb] at h
      rcases List.mem_cons.1 h with rfl | h
      · rfl
      · exact newB_isSome (σ := σ) p h
theorem newB_has {d : Nat} : ∀ {σ : List (Nat × Blk)} {p : Nat × Blk}, p ∈ σ → low ≤ p.1 → ∃ y, lkb (newB (ren [] d) σ) (p.1 + d * 16) = some y
  | [], p, h, _ => by cases h
  | q :: σ, p, h, hl => by
    unfold newB
    cases hb : Nat.blt q.1 low with
    | true =>
      rcases List.mem_cons.1 h with rfl | h
      · have : p.1 < low := by rw [← Nat.blt_eq]; exact hb
        omega
      · exact newB_has h hl
    | false =>
      have hlow : low ≤ q.1 := by
        rcases Nat.lt_or_ge q.1 low with h1 | h1
        · rw [show Nat.blt q.1 low = true by rw [Nat.blt_eq]; exact h1] at hb; cases hb
        · exact h1
      show ∃ y, (bif Nat.beq (ren [] d q.1).r (p.1 + d * 16) then some (q.2.rn (ren [] d)) else lkb (newB (ren [] d) σ) (p.1 + d * 16)) = some y
      rw [ren_high hlow]
      cases he : Nat.beq (rt (q.1 + d * 16)).r (p.1 + d * 16) with
      | true => exact ⟨_, rfl⟩
      | false =>
        rcases List.mem_cons.1 h with rfl | h
        · have : Nat.beq (rt (p.1 + d * 16)).r (p.1 + d * 16) = true := Nat.beq_refl _
          rw [this] at he; cases he
        · exact newB_has h hl
theorem callB_all {d : Nat} {σ : List (Nat × Blk)} (h : callB s [] d σ = true) : ∀ p ∈ σ, low ≤ p.1 ∧ s.rblk (p.1 + d * 16) = none := by
  intro p hp
  unfold callB at h
  simp only [Bool.and_eq_true] at h
  have := (List.all_eq_true.1 h.1.2) p hp
  simp only [Bool.or_eq_true, Bool.and_eq_true] at this
  rcases this with h3 | ⟨h3, h4⟩
  · rw [Nat.blt_eq] at h3; simp at h3
  · exact ⟨Nat.le_of_ble_eq_true h3, Option.isNone_iff_eq_none.1 h4⟩
theorem callB_of {d : Nat} {σ : List (Nat × Blk)} (h : callB s [] d σ = true) (h' : ∀ p ∈ σ, s'.rblk (p.1 + d * 16) = none) : callB s' [] d σ = true := by
  have ha := callB_all h
  unfold callB at h ⊢
  simp only [Bool.and_eq_true] at h ⊢
  refine ⟨⟨h.1.1, List.all_eq_true.2 fun p hp => ?_⟩, rfl⟩
  have e : Nat.ble low p.1 = true := by rw [Nat.ble_eq]; exact (ha p hp).1
  simp [h' p hp, e]

theorem QStep.fresh {o : Oper} {d : Nat} {A : AV} {bs : List (Nat × Option Blk)} (h : QStep P τ s0 s o d A bs) : d < s.n ∧ (∀ p ∈ bs, p.2.isSome = true) ∧ ∀ L x, lkb bs L = some x → s.rblk L = none := by
  cases h with
  | mkq hdn hy hL =>
    rename_i x nb
    refine ⟨hdn, ?_, ?_⟩
    · cases nb with
      | none => intro p hp; cases hp
      | some y => intro p hp; cases List.mem_singleton.1 hp; rfl
    · intro L y hl
      cases nb with
      | none => cases hl
      | some z =>
        have hl' : (bif Nat.beq (nm d) L then some z else none) = some y := hl
        cases hb : Nat.beq (nm d) L with
        | false => rw [hb] at hl'; cases hl'
        | true => rw [← Nat.eq_of_beq_eq_true hb]; exact hL.resolve_left (by simp)
  | mkc hdn hq hF hcb hag har =>
    refine ⟨hdn, newB_isSome, fun L y hl => ?_⟩
    obtain ⟨p, hp, _, rfl⟩ := newB_of hl
    exact (callB_all hcb p hp).2

theorem QStep.loc (h : Agree s s') {o : Oper} {d : Nat} {A : AV} {bs : List (Nat × Option Blk)} (hq : QStep P τ s s o d A bs) (he : ∀ x ∈ o.op.operands, s.ev x = s'.ev x) (hlv : ∀ x, s'.live (s'.ev x)) (hn : s.n = s'.n)
    (hf : ∀ L x, lkb bs L = some x → s'.rblk L = none) : QStep P τ s s' o d A bs := by
  cases hq with
  | mkq hdn hy hL =>
    rename_i x nb
    refine .mkq (by rw [← hn]; exact hdn) (q_local h he hlv hy) ?_
    cases nb with
    | none => exact .inl rfl
    | some y => exact .inr (hf (nm d) y (by simp [nbL, lkb]))
  | mkc hdn hq hF hcb hag har =>
    rename_i g args nw a0 r σ
    obtain ⟨c, f, caps, ho, hc, hfe, rfl⟩ := q_call hq
    have e1 : s.evs c.args.toList = s'.evs c.args.toList := evs_local (fun x hx => he x (by rw [ho]; simp only [Op.operands, Call.operands]; simp; exact .inr (by simpa using hx)))
    have e2 : s.ev f = s'.ev f := he f (by rw [ho]; simp only [Op.operands, Call.operands, hc]; simp)
    have hq' : q τ (nm d) s' o.op = .call g ((s'.evs c.args.toList).app caps) := by
      rw [ho]
      simp only [q, hc, ← e2, hfe]
    rw [e1] at har
    refine .mkc (by rw [← hn]; exact hdn) hq' hF (callB_of hcb (fun p hp => ?_)) h.agr har
    obtain ⟨y, hy⟩ := newB_has (d := d) hp (callB_all hcb p hp).1
    exact hf _ y hy

/-- What a guard says. -/
def gd (s : St) (ops : Array Oper) (o : Oper) : Option Bool :=
  match o.guard with
  | none => some true
  | some (j, want) =>
    match (ops[j]?).bind (·.dst) with
    | none => none
    | some dj => (match s.slot dj with | .tt => some want | .ff => some (!want) | .c (.tuple _) => some false | _ => none)
theorem opsVC_inv {ops : Array Oper} {o : Oper} {rest : List Oper} {K : St → Prop} (h : opsVC P τ (some sf) ops (o :: rest) K s) :
    (gd s ops o = some true ∧ opVC P τ (some sf) o s (opsVC P τ (some sf) ops rest K)) ∨ (gd s ops o = some false ∧ skipVC o s (opsVC P τ (some sf) ops rest K)) := by
  unfold opsVC at h
  simp only [fK_eq] at h
  unfold gd
  cases hg : o.guard with
  | none => rw [hg] at h; exact .inl ⟨rfl, h⟩
  | some p =>
    obtain ⟨j, want⟩ := p
    rw [hg] at h
    simp only at h ⊢
    cases hj : (ops[j]?).bind (·.dst) with
    | none => rw [hj] at h; exact h.elim
    | some dj =>
      rw [hj] at h
      simp only at h ⊢
      split at h
      · rename_i he
        rw [he]
        cases want with
        | true => exact .inl ⟨rfl, h⟩
        | false => exact .inr ⟨rfl, h⟩
      · rename_i he
        rw [he]
        cases want with
        | true => exact .inr ⟨rfl, h⟩
        | false => exact .inl ⟨rfl, h⟩
      · rename_i z he
        rw [he]
        exact .inr ⟨rfl, h⟩
      · exact h.elim
theorem gd_sound {ops : Array Oper} {o : Oper} {b : Bool} (h : gd s ops o = some b) (hs : Sim E s a w γ) : Region.wanted o (yielded ops a.tmps) = b := by
  unfold gd at h
  cases hg : o.guard with
  | none => rw [hg] at h; cases h; simp [Region.wanted, hg]
  | some p =>
    obtain ⟨j, want⟩ := p
    rw [hg] at h
    simp only at h
    cases hj : (ops[j]?).bind (·.dst) with
    | none => rw [hj] at h; cases h
    | some dj =>
      rw [hj] at h
      simp only at h
      have hsl := hs.slots dj
      split at h
      · rename_i he
        rw [he] at hsl
        rw [wanted_at hg hj (x := true) (by simpa [Reps] using hsl)]
        have h1 : want = b := by simpa using h
        subst h1; cases want <;> rfl
      · rename_i he
        rw [he] at hsl
        rw [wanted_at hg hj (x := false) (by simpa [Reps] using hsl)]
        have h1 : (!want) = b := by simpa using h
        subst h1; cases want <;> rfl
      · rename_i z he
        rw [he] at hsl
        rw [wanted_undef hg hj (x := z) (by simpa [Reps] using hsl)]
        cases h; rfl
      · cases h
theorem gd_local {ops : Array Oper} {o : Oper} {b : Bool} (h : gd s ops o = some b) (he : ∀ j want dj, o.guard = some (j, want) → (ops[j]?).bind (·.dst) = some dj → s.slot dj = s'.slot dj) : gd s' ops o = some b := by
  unfold gd at h ⊢
  cases hg : o.guard with
  | none => rw [hg] at h; exact h
  | some p =>
    obtain ⟨j, want⟩ := p
    rw [hg] at h
    simp only at h ⊢
    cases hj : (ops[j]?).bind (·.dst) with
    | none => rw [hj] at h; cases h
    | some dj => rw [hj] at h; simp only at h ⊢; rw [← he j want dj hg hj]; exact h

/-- One operation that is not solid, carried out or left out. -/
def Lstep (P : Program) (τ : List (Nat × TyI)) (ops : Array Oper) (s0 s : St) (o : Oper) (d : Nat) (A : AV) (bs : List (Nat × Option Blk)) : Prop :=
  (gd s ops o = some true ∧ QStep P τ s0 s o d A bs) ∨ (gd s ops o = some false ∧ d < s.n ∧ A = .c (.tuple #[]) ∧ bs = [])
/-- One operation, in whatever state of which s tells the truth, leads to s'. -/
def Sstep (P : Program) (ops : Array Oper) (s : St) (o : Oper) (s' : St) : Prop :=
  ∀ E a w Q, Den E s a w → if Region.wanted o (yielded ops a.tmps) then o.wp P a w (fun a' w' => Den E s' a' w') Q else Den E s' (a.put o.dst undef) w
theorem Lstep.sound (hτ : TyOk P τ) {ops : Array Oper} {o : Oper} {d : Nat} {A : AV} {bs : List (Nat × Option Blk)} (h : Lstep P τ ops s0 s o d A bs) (hd : o.dst = some d) : Sstep P ops s o (s.ap d A bs) := by
  rintro E a w Q ⟨γ, hs⟩
  rcases h with ⟨hg, hq⟩ | ⟨hg, hn, rfl, rfl⟩
  · rw [gd_sound hg hs]; exact hq.sound hτ hd hs
  · rw [gd_sound hg hs]
    have h1 : Sim E (s.put d (.c (.tuple #[]))) (a.put (some d) undef) w γ := hs.put hn rfl (fun M hM => hM.elim)
    rw [hd]; exact ⟨γ, h1⟩
theorem Lstep.fresh {ops : Array Oper} {o : Oper} {d : Nat} {A : AV} {bs : List (Nat × Option Blk)} (h : Lstep P τ ops s0 s o d A bs) : d < s.n ∧ (∀ p ∈ bs, p.2.isSome = true) ∧ ∀ L x, lkb bs L = some x → s.rblk L = none := by
  rcases h with ⟨_, hq⟩ | ⟨_, hn, rfl, rfl⟩
  · exact hq.fresh
  · exact ⟨hn, fun p hp => (by cases hp), fun L x h => (by cases h)⟩
theorem Lstep.loc (h : Agree s s') {ops : Array Oper} {o : Oper} {d : Nat} {A : AV} {bs : List (Nat × Option Blk)} (hL : Lstep P τ ops s s o d A bs) (he : ∀ x ∈ o.op.operands, s.ev x = s'.ev x)
    (hg : ∀ j want dj, o.guard = some (j, want) → (ops[j]?).bind (·.dst) = some dj → s.slot dj = s'.slot dj) (hlv : ∀ x, s'.live (s'.ev x)) (hn : s.n = s'.n) (hf : ∀ L x, lkb bs L = some x → s'.rblk L = none)   : Lstep P τ ops s s' o d A bs := by
  rcases hL with ⟨h1, h2⟩ | ⟨h1, h2, h3, h4⟩
  · exact .inl ⟨gd_local h1 hg, h2.loc h he hlv hn hf⟩
  · exact .inr ⟨gd_local h1 hg, by rw [← hn]; exact h2, h3, h4⟩
theorem forceB_of {x : AV} {f : AV → Prop} (h : f x.res) : x.forceB f := by
  cases x with
  | b z => exact ⟨fun e => ⟨by subst e; exact h⟩, fun e => ⟨by subst e; exact h⟩⟩
  | _ => exact h
/-- A solid operation. -/
theorem opVC_solid {o : Oper} {K : St → Prop} (h : opVC P τ (some sf) o s K) (hs : solidB sf o = true) : ∃ s', K s' ∧ opVC P τ (some sf) o s (fun t => t = s') := by
  have mup : ∀ {t : Nat} {m k x : Operand}, mupVC τ s t m k x K → ∃ s', K s' ∧ mupVC τ s t m k x (fun t => t = s') := by
    intro t m k x h
    unfold mupVC at h ⊢
    split at h
    · split at h
      · split at h
        · rename_i ki _
          cases hb : decide (ki.ik = some .i64) with
          | false => rw [hb] at h; exact h.elim
          | true =>
            rw [hb] at h
            simp only [cond_true] at h ⊢
            split at h
            · exact ⟨_, h, rfl⟩
            · exact h.elim
        · exact h.elim
      · exact h.elim
    · exact h.elim
  unfold opVC at h ⊢
  cases hd : o.dst with
  | none =>
    rw [hd] at h
    simp only at h ⊢
    split at h
    · rename_i t x y ho
      cases hi : ty? τ t with
      | none => rw [hi] at h; exact h.elim
      | some i =>
        rw [hi] at h
        simp only at h ⊢
        cases hz : Nat.blt 0 i.size with
        | false => rw [hz] at h; exact h.elim
        | true =>
          rw [hz] at h
          simp only [cond_true] at h ⊢
          unfold stoVC at h ⊢
          split at h
          · split at h
            · exact ⟨_, h, rfl⟩
            · exact h.elim
          · split at h
            · exact ⟨_, h.2.out, h.1, ⟨rfl⟩⟩
            · exact h.elim
      done
    · exact mup h
    · exact mup h
    · split at h
      · obtain ⟨nw, ns, a0, σ0, r, σ, hF, hcb, hle, har, ⟨hK⟩⟩ := h
        exact ⟨_, forceB_iff hK, nw, ns, a0, σ0, r, σ, hF, hcb, hle, har, ⟨forceB_of rfl⟩⟩
      · exact h.elim
    · exact h.elim
  | some d =>
    rw [hd] at h
    simp only at h ⊢
    cases hb : Nat.blt d s.n with
    | false => rw [hb] at h; exact h.elim
    | true =>
      rw [hb] at h
      simp only [cond_true] at h ⊢
      cases ho : o.op with
      | call c =>
        simp only [solidB, hd, ho] at hs
        rw [ho] at h
        split at hs
        · rename_i hcal
          have hq : q τ (nm d) s (.call c) = .bad := by simp only [q, hcal]
          rw [hq] at h
          rw [hq]
          simp only at h ⊢
          unfold appVC at h ⊢
          rw [hcal] at h ⊢
          generalize c.args.toList = l1 at h ⊢
          generalize c.argTypes.toList = l2 at h ⊢
          split at h
          · rename_i x y t t' _
            cases hbt : Nat.beq t' t with
            | false => rw [hbt] at h; exact h.elim
            | true =>
              rw [hbt] at h
              simp only [cond_true] at h ⊢
              cases hi : ty? τ t with
              | none => rw [hi] at h; exact h.elim
              | some i =>
                rw [hi] at h
                simp only at h ⊢
                cases he : ty? τ i.elem with
                | none => rw [he] at h; exact h.elim
                | some e =>
                  rw [he] at h
                  simp only at h ⊢
                  cases hbb : (Nat.blt 0 i.elem && Nat.blt 0 e.size && Nat.ble e.bytes 256) with
                  | false => rw [hbb] at h; exact h.elim
                  | true =>
                    rw [hbb] at h
                    simp only [cond_true] at h ⊢
                    cases hap : appA s i.elem e.size (nm d) d (s.ev x) (s.ev y) with
                    | ok p s1 => rw [hap] at h; exact ⟨s1, h.2.out, h.1, ⟨rfl⟩⟩
                    | bad => rw [hap] at h; exact h.elim
          · exact h.elim
        · rename_i g hcal
          have hev : s.ev (.func g) = .fn g .nil := rfl
          have hq : q τ (nm d) s (.call c) = .call g ((s.evs c.args.toList).app .nil) := by simp only [q, hcal, hev]
          rw [hq] at h
          rw [hq]
          simp only at h ⊢
          obtain ⟨nw, ns, a0, σ0, r, σ, hF, hcb, hle, har, ⟨hK⟩⟩ := h
          exact ⟨_, forceB_iff hK, nw, ns, a0, σ0, r, σ, hF, hcb, hle, har, ⟨forceB_of rfl⟩⟩
        · cases hs
      | _ => simp [solidB, hd, ho] at hs
theorem skip_solid {o : Oper} {K : St → Prop} (h : skipVC o s K) : ∃ s', K s' ∧ skipVC o s (fun t => t = s') := by
  unfold skipVC at h ⊢
  cases hd : o.dst with
  | none => rw [hd] at h; exact ⟨s, h, rfl⟩
  | some d =>
    rw [hd] at h
    simp only at h ⊢
    cases hb : Nat.blt d s.n with
    | false => rw [hb] at h; exact h.elim
    | true => rw [hb] at h; exact ⟨_, h, rfl⟩

/-- One operation of the text's order. -/
def Tstep (P : Program) (τ : List (Nat × TyI)) (sf : List Nat) (ops : Array Oper) (i : Nat) (s s' : St) (A : AV) (bs : List (Nat × Option Blk)) : Prop :=
  ∃ o, ops[i]? = some o ∧ ((solidB sf o = true ∧ Sstep P ops s o s') ∨ (solidB sf o = false ∧ ∃ d, o.dst = some d ∧ Lstep P τ ops s s o d A bs ∧ s' = s.ap d A bs))
theorem tstep_of (hτ : TyOk P τ) {ops : Array Oper} {i : Nat} {o : Oper} {rest : List Oper} {K : St → Prop} (hi : ops[i]? = some o) (h : opsVC P τ (some sf) ops (o :: rest) K s) : ∃ s' A bs, Tstep P τ sf ops i s s' A bs ∧ opsVC P τ (some sf) ops rest K s' := by
  cases hs : solidB sf o with
  | true =>
    rcases opsVC_inv h with ⟨hg, hv⟩ | ⟨hg, hv⟩
    · obtain ⟨s', h1, h2⟩ := opVC_solid hv hs
      refine ⟨s', .top, [], ⟨o, hi, .inl ⟨hs, ?_⟩⟩, h1⟩
      rintro E a w Q ⟨γ, hS⟩
      rw [gd_sound hg hS]
      exact Oper.wp_mono (fun a' w' ⟨s'', e, hd⟩ => by cases e; exact hd) (opVC_sound hτ h2 hS)
    · obtain ⟨s', h1, h2⟩ := skip_solid hv
      refine ⟨s', .top, [], ⟨o, hi, .inl ⟨hs, ?_⟩⟩, h1⟩
      rintro E a w Q ⟨γ, hS⟩
      rw [gd_sound hg hS]
      obtain ⟨s'', e, h3⟩ := skipVC_sound h2 hS
      cases e
      exact ⟨γ, h3⟩
  | false =>
    rcases opsVC_inv h with ⟨hg, hv⟩ | ⟨hg, hv⟩
    · obtain ⟨d, A, bs, hd, hq, hK⟩ := opVC_inv hv hs
      exact ⟨_, A, bs, ⟨o, hi, .inr ⟨hs, d, hd, .inl ⟨hg, hq⟩, rfl⟩⟩, hK⟩
    · unfold skipVC at hv
      cases hd : o.dst with
      | none => simp [solidB, hd] at hs
      | some d =>
        rw [hd] at hv
        simp only at hv
        cases hb : Nat.blt d s.n with
        | false => rw [hb] at hv; exact hv.elim
        | true =>
          rw [hb] at hv
          exact ⟨_, _, [], ⟨o, hi, .inr ⟨hs, d, hd, .inr ⟨hg, blt_pos hb, rfl, rfl⟩, rfl⟩⟩, hv⟩
theorem trace_of (hτ : TyOk P τ) {ops : Array Oper} {K : St → Prop} : ∀ (l : List Oper) (k : Nat) (s : St), (∀ j, l[j]? = ops[k + j]?) → opsVC P τ (some sf) ops l K s →
    ∃ (st : Nat → St) (A : Nat → AV) (bs : Nat → List (Nat × Option Blk)), st k = s ∧ K (st (k + l.length)) ∧ ∀ i, k ≤ i → i < k + l.length → Tstep P τ sf ops i (st i) (st (i + 1)) (A i) (bs i)
  | [], k, s, hl, h => ⟨fun _ => s, fun _ => .top, fun _ => [], rfl, h, fun i h1 h2 => by simp at h2; omega⟩
  | o :: l, k, s, hl, h => by
    have h0 : ops[k]? = some o := by simpa using (hl 0).symm
    obtain ⟨s', A0, b0, ht, hr⟩ := tstep_of hτ h0 h
    obtain ⟨st, A, bs, e, hK, hT⟩ := trace_of hτ l (k + 1) s' (fun j => by have := hl (j + 1); simpa [Nat.add_assoc, Nat.add_comm 1 j] using this) hr
    refine ⟨fun i => if i ≤ k then s else st i, fun i => if i = k then A0 else A i, fun i => if i = k then b0 else bs i, by simp, ?_, fun i h1 h2 => ?_⟩
    · have e2 : k + (o :: l).length = k + 1 + l.length := by simp; omega
      rw [e2]
      show K (if k + 1 + l.length ≤ k then s else st (k + 1 + l.length))
      rw [if_neg (by omega)]; exact hK
    · by_cases hik : i = k
      · subst hik
        simp only [Nat.le_refl, if_true, show ¬ i + 1 ≤ i by omega, if_false, e]
        exact ht
      · simp only [show ¬ i ≤ k by omega, show ¬ i + 1 ≤ k by omega, if_false, hik]
        exact hT i (by omega) (by simp at h2; omega)
end
end Go.Proofs.Ytbncmiglhjfcdaa
