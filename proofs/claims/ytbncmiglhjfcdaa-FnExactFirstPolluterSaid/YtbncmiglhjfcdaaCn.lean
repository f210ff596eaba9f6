/-
  What a callee leaves is taken over.
-/
import Derived.Test.YtbncmiglhjfcdaaCm
namespace Go.Proofs.Ytbncmiglhjfcdaa
open Go.RowKit
set_option linter.unusedVariables false

def nm (d : Nat) : Nat := (d + 1) * 16
/-- The callee's names in the caller's words. -/
def ren (ns : List Nm) (d L : Nat) : Nm := bif Nat.blt L low then lend ns L else rt (L + d * 16)
theorem ren_low {ns : List Nm} {d L : Nat} (h : L < low) : ren ns d L = lend ns L := by
  have : Nat.blt L low = true := by rw [Nat.blt_eq]; exact h
  simp [ren, this]
theorem ren_high {ns : List Nm} {d L : Nat} (h : low ≤ L) : ren ns d L = rt (L + d * 16) := by
  have : Nat.blt L low = false := by
    cases hb : Nat.blt L low with
    | false => rfl
    | true => rw [Nat.blt_eq] at hb; omega
  simp [ren, this]
def kids (R : Nat) (N : Nm) : Bool := Nat.beq N.r R && !N.p.isEmpty
/-- Names that may not be told any more: under what is lent; all of what is given away. -/
def St.drops (s : St) (lk : Nat → Option Blk) : Nat → List Nm → St
  | _, [] => s
  | i, N :: ns => (s.drops lk (i + 1) ns).kill (match lk i with | some _ => kids N.r | none => atR N.r)
def St.back (s : St) (ρ : Nat → Nm) (lk : Nat → Option Blk) : Nat → List Nm → St
  | _, [] => s
  | i, N :: ns => (match lk i with | some y => (s.back ρ lk (i + 1) ns).setN N (y.rn ρ) | none => (s.back ρ lk (i + 1) ns).setB N.r none)
def newB (ρ : Nat → Nm) : List (Nat × Blk) → List (Nat × Option Blk)
  | [] => []
  | p :: l => bif Nat.blt p.1 low then newB ρ l else ((ρ p.1).r, some (p.2.rn ρ)) :: newB ρ l
def St.addN (s : St) (l : List (Nat × Option Blk)) : St := { s with store := l ++ s.store }
def St.after (s : St) (ns : List Nm) (d : Nat) (σ : List (Nat × Blk)) : St := ((s.drops (lkx σ) 0 ns).back (ren ns d) (lkx σ) 0 ns).addN (newB (ren ns d) σ)

section
variable {E : Ent0} {w w' : World} {s : St} {act : Act} {γ : Nm → Value} {ρ : Nat → Nm} {lk : Nat → Option Blk}
theorem Sim.drops (h : Sim E s act w γ) : ∀ (ns : List Nm) (i : Nat), Sim E (s.drops lk i ns) act w γ
  | [], _ => h
  | N :: ns, i => (Sim.drops h ns (i + 1)).kill _
theorem drops_lv : ∀ (ns : List Nm) (i : Nat) {D : Nm}, (s.drops lk i ns).lv D ↔ s.lv D
  | [], _, D => Iff.rfl
  | N :: ns, i, D => lv_kill.trans (drops_lv ns (i + 1))
theorem drops_own : ∀ (ns : List Nm) (i : Nat), (s.drops lk i ns).own γ = s.own γ
  | [], _ => rfl
  | N :: ns, i => own_kill.trans (drops_own ns (i + 1))
theorem drops_rnone {L : Nat} : ∀ (ns : List Nm) (i : Nat), s.rblk L = none → (s.drops lk i ns).rblk L = none
  | [], _, h => h
  | N :: ns, i, h => by
    show ((s.drops lk (i + 1) ns).kill _).rblk L = none
    rw [rblk_kill, drops_rnone ns (i + 1) h]; rfl
/-- What the state still tells. -/
structure Told (s : St) (lk : Nat → Option Blk) (i : Nat) (ns : List Nm) : Prop where
  slot : ∀ t D, (s.slot t).has D → ∀ k N, ns[k]? = some N → D.r = N.r → (lk (i + k)).isSome = true ∧ D.p = []
  blk : ∀ M y D, s.at M y → y.has D → ∀ k N, ns[k]? = some N → D.r = N.r → (lk (i + k)).isSome = true ∧ D.p = []
theorem kids_not {R : Nat} {D : Nm} (h : kids R D = false) (e : D.r = R) : D.p = [] := by
  unfold kids at h
  rw [e, Nat.beq_refl] at h
  simpa using h
theorem told_drops : ∀ (ns : List Nm) (i : Nat), Told (s.drops lk i ns) lk i ns
  | [], i => ⟨fun t D _ k N h => by simp at h, fun M y D _ _ k N h => by simp at h⟩
  | N0 :: ns, i => by
    have ih := told_drops ns (i + 1)
    have one : ∀ {D : Nm}, (match lk i with | some _ => kids N0.r | none => atR N0.r) D = false → D.r = N0.r → (lk i).isSome = true ∧ D.p = [] := by
      intro D h e
      cases hl : lk i with
      | some y => rw [hl] at h; exact ⟨rfl, kids_not h e⟩
      | none => rw [hl] at h; exact absurd e (atR_ne h)
    refine ⟨fun t D hD k N hN e => ?_, fun M y D hM hD k N hN e => ?_⟩
    · have hD' : (((s.drops lk (i + 1) ns).kill (match lk i with | some _ => kids N0.r | none => atR N0.r)).slot t).has D := hD
      rw [slot_kill] at hD'
      obtain ⟨h1, h2⟩ := has_kill hD'
      cases k with
      | zero => cases hN; exact one h2 e
      | succ k => have := ih.slot t D h1 k N (by simpa using hN) e; rwa [show i + 1 + k = i + (k + 1) by omega] at this
    · have hM' : ((s.drops lk (i + 1) ns).kill (match lk i with | some _ => kids N0.r | none => atR N0.r)).at M y := hM
      obtain ⟨z, hz, rfl⟩ := of_kill.1 hM'
      obtain ⟨h1, h2⟩ := hasB_kill hD
      cases k with
      | zero => cases hN; exact one h2 e
      | succ k => have := ih.blk M z D hz h1 k N (by simpa using hN) e; rwa [show i + 1 + k = i + (k + 1) by omega] at this

theorem setN_other {N D : Nm} {y z : Blk} (h : D.r ≠ N.r) : (s.setN N y).at D z ↔ s.at D z := by
  unfold St.setN
  split
  · exact at_setB_ne (fun e => h e.symm)
  · exact Iff.rfl
theorem back_slot (t : Nat) : ∀ (ns : List Nm) (i : Nat), (s.back ρ lk i ns).slot t = s.slot t
  | [], _ => rfl
  | N :: ns, i => by
    unfold St.back
    split
    · rw [setN_slot]; exact back_slot t ns (i + 1)
    · exact back_slot t ns (i + 1)
theorem back_n : ∀ (ns : List Nm) (i : Nat), (s.back ρ lk i ns).n = s.n
  | [], _ => rfl
  | N :: ns, i => by
    unfold St.back
    split
    · rw [setN_n]; exact back_n ns (i + 1)
    · exact back_n ns (i + 1)
theorem back_other {D : Nm} {z : Blk} : ∀ (ns : List Nm) (i : Nat), (∀ N ∈ ns, D.r ≠ N.r) → ((s.back ρ lk i ns).at D z ↔ s.at D z)
  | [], _, _ => Iff.rfl
  | N :: ns, i, h => by
    unfold St.back
    have ih := back_other ns (i + 1) (fun M hM => h M (by simp [hM])) (z := z)
    split
    · exact (setN_other (h N (by simp))).trans ih
    · exact (at_setB_ne (fun e => h N (by simp) e.symm)).trans ih
structure Fit (s : St) (lk : Nat → Option Blk) (i : Nat) (ns : List Nm) : Prop where
  nd : (ns.map Nm.r).Nodup
  lv : ∀ N ∈ ns, s.lv N
  nest : ∀ k N y, ns[k]? = some N → lk (i + k) = some y → N.p ≠ [] → y.nest = true
  drop : ∀ k N, ns[k]? = some N → lk (i + k) = none → N.p = []
theorem Fit.tail {i : Nat} {N : Nm} {ns : List Nm} (h : Fit s lk i (N :: ns)) : Fit s lk (i + 1) ns := by
  refine ⟨(List.nodup_cons.1 h.nd).2, fun M hM => h.lv M (by simp [hM]), fun k M y h1 h2 h3 => h.nest (k + 1) M y (by simpa using h1) (by rw [← h2]; congr 1; omega) h3, fun k M h1 h2 => h.drop (k + 1) M (by simpa using h1) (by rw [← h2]; congr 1; omega)⟩
theorem Fit.head {i : Nat} {N : Nm} {ns : List Nm} (h : Fit s lk i (N :: ns)) : ∀ M ∈ ns, N.r ≠ M.r := fun M hM e => (List.nodup_cons.1 h.nd).1 (by rw [e]; exact List.mem_map_of_mem hM)
theorem back_at {D : Nm} {z : Blk} : ∀ (ns : List Nm) (i : Nat), Fit s lk i ns → (s.back ρ lk i ns).at D z →
    (∃ (k : Nat) (N : Nm) (y : Blk) (q : List (Nat × Nat)), ns[k]? = some N ∧ lk (i + k) = some y ∧ D = ⟨N.r, N.p ++ q⟩ ∧ (y.rn ρ).At q z) ∨
    ((∀ (k : Nat) (N : Nm), ns[k]? = some N → ¬ ∃ q, D = ⟨N.r, N.p ++ q⟩) ∧ ∃ z1, s.at D z1 ∧ SameSh z1 z)
  | [], i, _, h => .inr ⟨fun k N hN => by simp at hN, z, h, SameSh.refl z⟩
  | N :: ns, i, hf, h => by
    by_cases e : D.r = N.r
    · have hD : ∀ M ∈ ns, D.r ≠ M.r := fun M hM => by rw [e]; exact hf.head M hM
      unfold St.back at h
      split at h
      · rename_i y hy
        obtain ⟨y0, hy0⟩ := hf.lv N (by simp)
        have hT : (s.back ρ lk (i + 1) ns).at N y0 := (back_other ns (i + 1) hf.head).2 hy0
        rcases at_setN hT (fun hp => by rw [nest_rn]; exact hf.nest 0 N y rfl hy hp) h with ⟨q, rfl, hq⟩ | ⟨hq, z1, h1, h2⟩
        · exact .inl ⟨0, N, y, q, rfl, hy, rfl, hq⟩
        · refine .inr ⟨fun k M hM => ?_, z1, (back_other ns (i + 1) hD).1 h1, h2⟩
          cases k with
          | zero => cases hM; exact hq
          | succ k =>
            rintro ⟨q, e2⟩
            exact hD M (List.mem_of_getElem? (by simpa using hM)) (by rw [e2])
      · exact absurd e (at_setNone.1 h).1
    · have h' : (s.back ρ lk (i + 1) ns).at D z := by
        unfold St.back at h
        split at h
        · exact (setN_other e).1 h
        · exact (at_setB_ne (fun e' => e e'.symm)).1 h
      rcases back_at ns (i + 1) hf.tail h' with ⟨k, M, y, q, h1, h2, h3, h4⟩ | ⟨h1, h2⟩
      · exact .inl ⟨k + 1, M, y, q, by simpa using h1, by rw [← h2]; congr 1; omega, h3, h4⟩
      · refine .inr ⟨fun k M hM => ?_, h2⟩
        cases k with
        | zero => cases hM; rintro ⟨q, e2⟩; exact e (by rw [e2])
        | succ k => exact h1 k M (by simpa using hM)
theorem back_kept {q : List (Nat × Nat)} {z y : Blk} : ∀ (ns : List Nm) (i k : Nat) (N : Nm), Fit s lk i ns → ns[k]? = some N → lk (i + k) = some y → (y.rn ρ).At q z → (s.back ρ lk i ns).at ⟨N.r, N.p ++ q⟩ z
  | [], i, k, N, _, h, _, _ => by simp at h
  | N0 :: ns, i, 0, N, hf, h, hy, hz => by
    obtain rfl : N0 = N := by simpa using h
    obtain ⟨y0, hy0⟩ := hf.lv N0 (by simp)
    have hT : (s.back ρ lk (i + 1) ns).at N0 y0 := (back_other ns (i + 1) hf.head).2 hy0
    have hy' : lk i = some y := hy
    unfold St.back
    rw [hy']
    exact setN_sub hT (fun hp => by rw [nest_rn]; exact hf.nest 0 N0 y rfl hy hp) hz
  | N0 :: ns, i, k + 1, N, hf, h, hy, hz => by
    have hm : N ∈ ns := List.mem_of_getElem? (by simpa using h)
    have e : (⟨N.r, N.p ++ q⟩ : Nm).r ≠ N0.r := fun e => hf.head N hm e.symm
    have ih := back_kept ns (i + 1) k N hf.tail (by simpa using h) (by rw [← hy]; congr 1; omega) hz
    unfold St.back
    split
    · exact (setN_other e).2 ih
    · exact (at_setB_ne (fun e' => e e'.symm)).2 ih
theorem back_old {D : Nm} {z : Blk} : ∀ (ns : List Nm) (i : Nat), Fit s lk i ns → s.at D z → (∀ (k : Nat) (N : Nm), ns[k]? = some N → ¬ ∃ q, D = ⟨N.r, N.p ++ q⟩) → (∀ (k : Nat) (N : Nm), ns[k]? = some N → lk (i + k) = none → D.r ≠ N.r) → (s.back ρ lk i ns).lv D
  | [], i, _, h, _, _ => ⟨z, h⟩
  | N :: ns, i, hf, h, h1, h2 => by
    by_cases e : D.r = N.r
    · have hD : ∀ M ∈ ns, D.r ≠ M.r := fun M hM => by rw [e]; exact hf.head M hM
      unfold St.back
      split
      · rename_i y hy
        obtain ⟨y0, hy0⟩ := hf.lv N (by simp)
        have hT : (s.back ρ lk (i + 1) ns).at N y0 := (back_other ns (i + 1) hf.head).2 hy0
        exact setN_old hT (fun hp => by rw [nest_rn]; exact hf.nest 0 N y rfl hy hp) ((back_other ns (i + 1) hD).2 h) (h1 0 N rfl)
      · rename_i hy
        exact absurd e (h2 0 N rfl hy)
    · obtain ⟨z', hz'⟩ := back_old ns (i + 1) hf.tail h (fun k M hM => h1 (k + 1) M (by simpa using hM)) (fun k M hM hl => h2 (k + 1) M (by simpa using hM) (by rw [← hl]; congr 1; omega))
      unfold St.back
      split
      · exact ⟨z', (setN_other e).2 hz'⟩
      · exact ⟨z', (at_setB_ne (fun e' => e e'.symm)).2 hz'⟩

theorem lkb_newB {ns : List Nm} {d R : Nat} {x : Blk} : ∀ {σ : List (Nat × Blk)}, lkb (newB (ren ns d) σ) R = some x → ∃ L y, low ≤ L ∧ lkx σ L = some y ∧ R = L + d * 16 ∧ x = y.rn (ren ns d) := by
  intro σ
  induction σ with
  | nil => intro h; cases h
  | cons p l ih =>
    intro h
    unfold newB at h
    cases hb : Nat.blt p.1 low with
    | true =>
      rw [hb] at h
      obtain ⟨L, y, h1, h2, h3⟩ := ih h
      have : p.1 < low := by rw [Nat.blt_eq] at hb; exact hb
      exact ⟨L, y, h1, by unfold lkx; rw [beq_ne (by omega)]; exact h2, h3⟩
    | false =>
      have hlow : low ≤ p.1 := by
        rcases Nat.lt_or_ge p.1 low with h1 | h1
        · rw [← Nat.blt_eq, hb] at h1; cases h1
        · exact h1
      rw [hb, ren_high hlow] at h
      have h' : (bif Nat.beq (p.1 + d * 16) R then some (p.2.rn (ren ns d)) else lkb (newB (ren ns d) l) R) = some x := h
      cases hq : Nat.beq (p.1 + d * 16) R with
      | true =>
        rw [hq] at h'; cases h'
        exact ⟨p.1, p.2, hlow, by simp [lkx], (Nat.eq_of_beq_eq_true hq).symm, rfl⟩
      | false =>
        rw [hq] at h'
        obtain ⟨L, y, h1, h2, h3, h4⟩ := ih h'
        have hne : p.1 ≠ L := fun e => by rw [e, ← h3, Nat.beq_refl] at hq; cases hq
        exact ⟨L, y, h1, by unfold lkx; rw [beq_ne hne]; exact h2, h3, h4⟩
theorem newB_lkb {ns : List Nm} {d L : Nat} {y : Blk} (hl : low ≤ L) : ∀ {σ : List (Nat × Blk)}, lkx σ L = some y → lkb (newB (ren ns d) σ) (L + d * 16) = some (y.rn (ren ns d)) := by
  intro σ
  induction σ with
  | nil => intro h; cases h
  | cons p l ih =>
    intro h
    unfold lkx at h
    unfold newB
    cases hq : Nat.beq p.1 L with
    | true =>
      rw [hq] at h; cases h
      have e := Nat.eq_of_beq_eq_true hq
      have hb : Nat.blt p.1 low = false := by
        cases hb : Nat.blt p.1 low with
        | false => rfl
        | true => rw [Nat.blt_eq] at hb; omega
      rw [hb, ren_high (by omega)]
      simp [lkb, e]
    | false =>
      rw [hq] at h
      cases hb : Nat.blt p.1 low with
      | true => exact ih h
      | false =>
        have hlow : low ≤ p.1 := by
          rcases Nat.lt_or_ge p.1 low with h1 | h1
          · rw [← Nat.blt_eq, hb] at h1; cases h1
          · exact h1
        rw [ren_high hlow]
        have hne : p.1 + d * 16 ≠ L + d * 16 := fun e => by
          have : p.1 = L := by omega
          rw [this, Nat.beq_refl] at hq; cases hq
        show (bif Nat.beq (p.1 + d * 16) (L + d * 16) then some (p.2.rn (ren ns d)) else lkb (newB (ren ns d) l) (L + d * 16)) = _
        rw [beq_ne hne]; exact ih h
theorem addN_rblk {l : List (Nat × Option Blk)} (hl : ∀ p ∈ l, p.2.isSome = true) (L : Nat) : (s.addN l).rblk L = match lkb l L with | some x => some x | none => s.rblk L := by
  unfold St.addN St.rblk
  induction l with
  | nil => rfl
  | cons p l ih =>
    simp only [List.cons_append, lkb]
    cases hb : Nat.beq p.1 L with
    | true =>
      obtain ⟨x, hx⟩ := Option.isSome_iff_exists.1 (hl p (by simp))
      simp [hx]
    | false => simp only [cond_false]; exact ih (fun q hq => hl q (by simp [hq]))
theorem newB_some {ns : List Nm} {d : Nat} : ∀ {σ : List (Nat × Blk)}, ∀ p ∈ newB (ren ns d) σ, p.2.isSome = true := by
  intro σ
  induction σ with
  | nil => intro p h; cases h
  | cons q l ih =>
    intro p h
    unfold newB at h
    cases hb : Nat.blt q.1 low with
    | true => rw [hb] at h; exact ih p h
    | false =>
      rw [hb] at h
      rcases List.mem_cons.1 h with rfl | h
      · rfl
      · exact ih p h
theorem after_new {ns : List Nm} {d L : Nat} {p : List (Nat × Nat)} {σ : List (Nat × Blk)} {z : Blk} {T : St} (hl : low ≤ L) {y : Blk} (hy : lkx σ L = some y) : (T.addN (newB (ren ns d) σ)).at ⟨L + d * 16, p⟩ z ↔ (y.rn (ren ns d)).At p z := by
  unfold St.at AtL
  rw [addN_rblk newB_some, newB_lkb hl hy]
  exact ⟨fun ⟨x, h1, h2⟩ => by cases h1; exact h2, fun h => ⟨_, rfl, h⟩⟩
theorem after_cases {ns : List Nm} {d : Nat} {D : Nm} {σ : List (Nat × Blk)} {z : Blk} {T : St} (h : (T.addN (newB (ren ns d) σ)).at D z) :
    (∃ L y, low ≤ L ∧ lkx σ L = some y ∧ D.r = L + d * 16 ∧ (y.rn (ren ns d)).At D.p z) ∨ ((∀ L y, low ≤ L → lkx σ L = some y → D.r ≠ L + d * 16) ∧ T.at D z) := by
  unfold St.at AtL at h
  rw [addN_rblk newB_some] at h
  obtain ⟨x, h1, h2⟩ := h
  cases hb : lkb (newB (ren ns d) σ) D.r with
  | some x' =>
    rw [hb] at h1; cases h1
    obtain ⟨L, y, h3, h4, h5, h6⟩ := lkb_newB hb
    exact .inl ⟨L, y, h3, h4, h5, by rw [← h6]; exact h2⟩
  | none =>
    rw [hb] at h1
    exact .inr ⟨fun L y h3 h4 e => (by rw [e, newB_lkb h3 h4] at hb; cases hb), x, h1, h2⟩
end
end Go.Proofs.Ytbncmiglhjfcdaa
