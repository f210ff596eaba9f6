/-
  Joined: Cn Co Cp Cq Cr Cs Ct Cu Cv Cw Cx Cy.
-/
import Derived.Test.YtaopjdeigpiejaaDoorVA
import Derived.Laws.Append
import Derived.Laws.AppendOwn
import Derived.WalkSpells
import Derived.Laws.IdiomStrings
namespace Go.Proofs.YtaopjdeigpiejaaDoor
open Go.RowKit
set_option linter.unusedVariables false

def nm (d : Nat) : Nat := (d + 1) * 16
/-- The callee's names in the caller's words. -/
def ren (ns : List Nm) (d L : Nat) : Nm := bif Nat.blt L low then lend ns L else rt (L + d * 16)
theorem ren_low {ns : List Nm} {d L : Nat} (h : L < low) : ren ns d L = lend ns L := by
  have : Nat.blt L low = true := by rw [Nat.blt_eq]; exact h
  simp [ren, this]
theorem ren_high {ns : List Nm} {d L : Nat} (h : low ≤ L) : ren ns d L = rt (L + d * 16) := by
  have : Nat.blt L low = false := by
    cases hb : Nat.blt L low with
    | false => rfl
    | true => rw [Nat.blt_eq] at hb; omega
  simp [ren, this]
def kids (R : Nat) (N : Nm) : Bool := Nat.beq N.r R && !N.p.isEmpty
/-- Names that lie deeper than N does. -/
def deepN (N M : Nm) : Bool := Nat.beq M.r N.r && Nat.blt N.p.length M.p.length
/-- Names that may not be told any more: under what is lent; all of what is given away. -/
def St.drops (s : St) (lk : Nat → Option Blk) : Nat → List Nm → St
  | _, [] => s
  | i, N :: ns => (s.drops lk (i + 1) ns).kill (match lk i with | some _ => deepN N | none => atR N.r)
def St.back (s : St) (ρ : Nat → Nm) (lk : Nat → Option Blk) : Nat → List Nm → St
  | _, [] => s
  | i, N :: ns => (match lk i with | some y => (s.back ρ lk (i + 1) ns).setN N (y.rn ρ) | none => (s.back ρ lk (i + 1) ns).setB N.r none)
def newB (ρ : Nat → Nm) : List (Nat × Blk) → List (Nat × Option Blk)
  | [] => []
  | p :: l => bif Nat.blt p.1 low then newB ρ l else ((ρ p.1).r, some (p.2.rn ρ)) :: newB ρ l
def St.addN (s : St) (l : List (Nat × Option Blk)) : St := { s with store := l ++ s.store }
def St.after (s : St) (ns : List Nm) (d : Nat) (σ : List (Nat × Blk)) : St := ((s.drops (lkx σ) 0 ns).back (ren ns d) (lkx σ) 0 ns).addN (newB (ren ns d) σ)

section
variable {E : Ent0} {w w' : World} {s : St} {act : Act} {γ : Nm → Value} {ρ : Nat → Nm} {lk : Nat → Option Blk}
theorem Sim.drops (h : Sim E s act w γ) : ∀ (ns : List Nm) (i : Nat), Sim E (s.drops lk i ns) act w γ
  | [], _ => h
  | N :: ns, i => (Sim.drops h ns (i + 1)).kill _
theorem drops_lv : ∀ (ns : List Nm) (i : Nat) {D : Nm}, (s.drops lk i ns).lv D ↔ s.lv D
  | [], _, D => Iff.rfl
  | N :: ns, i, D => lv_kill.trans (drops_lv ns (i + 1))
theorem drops_own : ∀ (ns : List Nm) (i : Nat), (s.drops lk i ns).own γ = s.own γ
  | [], _ => rfl
  | N :: ns, i => own_kill.trans (drops_own ns (i + 1))
theorem drops_rnone {L : Nat} : ∀ (ns : List Nm) (i : Nat), s.rblk L = none → (s.drops lk i ns).rblk L = none
  | [], _, h => h
  | N :: ns, i, h => by
    show ((s.drops lk (i + 1) ns).kill _).rblk L = none
    rw [rblk_kill, drops_rnone ns (i + 1) h]; rfl
/-- What the state still tells. -/
structure Told (s : St) (lk : Nat → Option Blk) (i : Nat) (ns : List Nm) : Prop where
  slot : ∀ t D, (s.slot t).has D → ∀ k N, ns[k]? = some N → D.r = N.r → (lk (i + k)).isSome = true ∧ D.p.length ≤ N.p.length
  blk : ∀ M y D, s.at M y → y.has D → ∀ k N, ns[k]? = some N → D.r = N.r → (lk (i + k)).isSome = true ∧ D.p.length ≤ N.p.length
theorem kids_not {R : Nat} {D : Nm} (h : kids R D = false) (e : D.r = R) : D.p = [] := by
  unfold kids at h
  rw [e, Nat.beq_refl] at h
  simpa using h
theorem deep_not {N D : Nm} (h : deepN N D = false) (e : D.r = N.r) : D.p.length ≤ N.p.length := by
  unfold deepN at h
  rw [e, Nat.beq_refl, Bool.true_and] at h
  rcases Nat.lt_or_ge N.p.length D.p.length with h1 | h1
  · have : Nat.blt N.p.length D.p.length = true := by rw [Nat.blt_eq]; exact h1
    rw [this] at h; cases h
  · exact h1
theorem told_drops : ∀ (ns : List Nm) (i : Nat), Told (s.drops lk i ns) lk i ns
  | [], i => ⟨fun t D _ k N h => by simp at h, fun M y D _ _ k N h => by simp at h⟩
  | N0 :: ns, i => by
    have ih := told_drops ns (i + 1)
    have one : ∀ {D : Nm}, (match lk i with | some _ => deepN N0 | none => atR N0.r) D = false → D.r = N0.r → (lk i).isSome = true ∧ D.p.length ≤ N0.p.length := by
      intro D h e
      cases hl : lk i with
      | some y => rw [hl] at h; exact ⟨rfl, deep_not h e⟩
      | none => rw [hl] at h; exact absurd e (atR_ne h)
    refine ⟨fun t D hD k N hN e => ?_, fun M y D hM hD k N hN e => ?_⟩
    · have hD' : (((s.drops lk (i + 1) ns).kill (match lk i with | some _ => deepN N0 | none => atR N0.r)).slot t).has D := hD
      rw [slot_kill] at hD'
      obtain ⟨h1, h2⟩ := has_kill hD'
      cases k with
      | zero => cases hN; exact one h2 e
      | succ k => have := ih.slot t D h1 k N (by simpa using hN) e; rwa [show i + 1 + k = i + (k + 1) by omega] at this
    · have hM' : ((s.drops lk (i + 1) ns).kill (match lk i with | some _ => deepN N0 | none => atR N0.r)).at M y := hM
      obtain ⟨z, hz, rfl⟩ := of_kill.1 hM'
      obtain ⟨h1, h2⟩ := hasB_kill hD
      cases k with
      | zero => cases hN; exact one h2 e
      | succ k => have := ih.blk M z D hz h1 k N (by simpa using hN) e; rwa [show i + 1 + k = i + (k + 1) by omega] at this

theorem setN_other {N D : Nm} {y z : Blk} (h : D.r ≠ N.r) : (s.setN N y).at D z ↔ s.at D z := by
  unfold St.setN
  split
  · exact at_setB_ne (fun e => h e.symm)
  · exact Iff.rfl
theorem back_slot (t : Nat) : ∀ (ns : List Nm) (i : Nat), (s.back ρ lk i ns).slot t = s.slot t
  | [], _ => rfl
  | N :: ns, i => by
    unfold St.back
    split
    · rw [setN_slot]; exact back_slot t ns (i + 1)
    · exact back_slot t ns (i + 1)
theorem back_n : ∀ (ns : List Nm) (i : Nat), (s.back ρ lk i ns).n = s.n
  | [], _ => rfl
  | N :: ns, i => by
    unfold St.back
    split
    · rw [setN_n]; exact back_n ns (i + 1)
    · exact back_n ns (i + 1)
theorem back_other {D : Nm} {z : Blk} : ∀ (ns : List Nm) (i : Nat), (∀ N ∈ ns, D.r ≠ N.r) → ((s.back ρ lk i ns).at D z ↔ s.at D z)
  | [], _, _ => Iff.rfl
  | N :: ns, i, h => by
    unfold St.back
    have ih := back_other ns (i + 1) (fun M hM => h M (by simp [hM])) (z := z)
    split
    · exact (setN_other (h N (by simp))).trans ih
    · exact (at_setB_ne (fun e => h N (by simp) e.symm)).trans ih
structure Fit (s : St) (lk : Nat → Option Blk) (i : Nat) (ns : List Nm) : Prop where
  nd : (ns.map Nm.r).Nodup
  lv : ∀ N ∈ ns, s.lv N
  nest : ∀ k N y, ns[k]? = some N → lk (i + k) = some y → N.p ≠ [] → y.nest = true
  drop : ∀ k N, ns[k]? = some N → lk (i + k) = none → N.p = []
theorem Fit.tail {i : Nat} {N : Nm} {ns : List Nm} (h : Fit s lk i (N :: ns)) : Fit s lk (i + 1) ns := by
  refine ⟨(List.nodup_cons.1 h.nd).2, fun M hM => h.lv M (by simp [hM]), fun k M y h1 h2 h3 => h.nest (k + 1) M y (by simpa using h1) (by rw [← h2]; congr 1; omega) h3, fun k M h1 h2 => h.drop (k + 1) M (by simpa using h1) (by rw [← h2]; congr 1; omega)⟩
theorem Fit.head {i : Nat} {N : Nm} {ns : List Nm} (h : Fit s lk i (N :: ns)) : ∀ M ∈ ns, N.r ≠ M.r := fun M hM e => (List.nodup_cons.1 h.nd).1 (by rw [e]; exact List.mem_map_of_mem hM)
theorem back_at {D : Nm} {z : Blk} : ∀ (ns : List Nm) (i : Nat), Fit s lk i ns → (s.back ρ lk i ns).at D z →
    (∃ (k : Nat) (N : Nm) (y : Blk) (q : List (Nat × Nat)), ns[k]? = some N ∧ lk (i + k) = some y ∧ D = ⟨N.r, N.p ++ q⟩ ∧ (y.rn ρ).At q z) ∨
    ((∀ (k : Nat) (N : Nm), ns[k]? = some N → ¬ ∃ q, D = ⟨N.r, N.p ++ q⟩) ∧ ∃ z1, s.at D z1 ∧ SameSh z1 z)
  | [], i, _, h => .inr ⟨fun k N hN => by simp at hN, z, h, SameSh.refl z⟩
  | N :: ns, i, hf, h => by
    by_cases e : D.r = N.r
    · have hD : ∀ M ∈ ns, D.r ≠ M.r := fun M hM => by rw [e]; exact hf.head M hM
      unfold St.back at h
      split at h
      · rename_i y hy
        obtain ⟨y0, hy0⟩ := hf.lv N (by simp)
        have hT : (s.back ρ lk (i + 1) ns).at N y0 := (back_other ns (i + 1) hf.head).2 hy0
        rcases at_setN hT (fun hp => by rw [nest_rn]; exact hf.nest 0 N y rfl hy hp) h with ⟨q, rfl, hq⟩ | ⟨hq, z1, h1, h2⟩
        · exact .inl ⟨0, N, y, q, rfl, hy, rfl, hq⟩
        · refine .inr ⟨fun k M hM => ?_, z1, (back_other ns (i + 1) hD).1 h1, h2⟩
          cases k with
          | zero => cases hM; exact hq
          | succ k =>
            rintro ⟨q, e2⟩
            exact hD M (List.mem_of_getElem? (by simpa using hM)) (by rw [e2])
      · exact absurd e (at_setNone.1 h).1
    · have h' : (s.back ρ lk (i + 1) ns).at D z := by
        unfold St.back at h
        split at h
        · exact (setN_other e).1 h
        · exact (at_setB_ne (fun e' => e e'.symm)).1 h
      rcases back_at ns (i + 1) hf.tail h' with ⟨k, M, y, q, h1, h2, h3, h4⟩ | ⟨h1, h2⟩
      · exact .inl ⟨k + 1, M, y, q, by simpa using h1, by rw [← h2]; congr 1; omega, h3, h4⟩
      · refine .inr ⟨fun k M hM => ?_, h2⟩
        cases k with
        | zero => cases hM; rintro ⟨q, e2⟩; exact e (by rw [e2])
        | succ k => exact h1 k M (by simpa using hM)
theorem back_kept {q : List (Nat × Nat)} {z y : Blk} : ∀ (ns : List Nm) (i k : Nat) (N : Nm), Fit s lk i ns → ns[k]? = some N → lk (i + k) = some y → (y.rn ρ).At q z → (s.back ρ lk i ns).at ⟨N.r, N.p ++ q⟩ z
  | [], i, k, N, _, h, _, _ => by simp at h
  | N0 :: ns, i, 0, N, hf, h, hy, hz => by
    obtain rfl : N0 = N := by simpa using h
    obtain ⟨y0, hy0⟩ := hf.lv N0 (by simp)
    have hT : (s.back ρ lk (i + 1) ns).at N0 y0 := (back_other ns (i + 1) hf.head).2 hy0
    have hy' : lk i = some y := hy
    unfold St.back
    rw [hy']
    exact setN_sub hT (fun hp => by rw [nest_rn]; exact hf.nest 0 N0 y rfl hy hp) hz
  | N0 :: ns, i, k + 1, N, hf, h, hy, hz => by
    have hm : N ∈ ns := List.mem_of_getElem? (by simpa using h)
    have e : (⟨N.r, N.p ++ q⟩ : Nm).r ≠ N0.r := fun e => hf.head N hm e.symm
    have ih := back_kept ns (i + 1) k N hf.tail (by simpa using h) (by rw [← hy]; congr 1; omega) hz
    unfold St.back
    split
    · exact (setN_other e).2 ih
    · exact (at_setB_ne (fun e' => e e'.symm)).2 ih
theorem back_old {D : Nm} {z : Blk} : ∀ (ns : List Nm) (i : Nat), Fit s lk i ns → s.at D z → (∀ (k : Nat) (N : Nm), ns[k]? = some N → ¬ ∃ q, D = ⟨N.r, N.p ++ q⟩) → (∀ (k : Nat) (N : Nm), ns[k]? = some N → lk (i + k) = none → D.r ≠ N.r) → (s.back ρ lk i ns).lv D
  | [], i, _, h, _, _ => ⟨z, h⟩
  | N :: ns, i, hf, h, h1, h2 => by
    by_cases e : D.r = N.r
    · have hD : ∀ M ∈ ns, D.r ≠ M.r := fun M hM => by rw [e]; exact hf.head M hM
      unfold St.back
      split
      · rename_i y hy
        obtain ⟨y0, hy0⟩ := hf.lv N (by simp)
        have hT : (s.back ρ lk (i + 1) ns).at N y0 := (back_other ns (i + 1) hf.head).2 hy0
        exact setN_old hT (fun hp => by rw [nest_rn]; exact hf.nest 0 N y rfl hy hp) ((back_other ns (i + 1) hD).2 h) (h1 0 N rfl)
      · rename_i hy
        exact absurd e (h2 0 N rfl hy)
    · obtain ⟨z', hz'⟩ := back_old ns (i + 1) hf.tail h (fun k M hM => h1 (k + 1) M (by simpa using hM)) (fun k M hM hl => h2 (k + 1) M (by simpa using hM) (by rw [← hl]; congr 1; omega))
      unfold St.back
      split
      · exact ⟨z', (setN_other e).2 hz'⟩
      · exact ⟨z', (at_setB_ne (fun e' => e e'.symm)).2 hz'⟩

theorem lkb_newB {ns : List Nm} {d R : Nat} {x : Blk} : ∀ {σ : List (Nat × Blk)}, lkb (newB (ren ns d) σ) R = some x → ∃ L y, low ≤ L ∧ lkx σ L = some y ∧ R = L + d * 16 ∧ x = y.rn (ren ns d) := by
  intro σ
  induction σ with
  | nil => intro h; cases h
  | cons p l ih =>
    intro h
    unfold newB at h
    cases hb : Nat.blt p.1 low with
    | true =>
      rw [hb] at h
      obtain ⟨L, y, h1, h2, h3⟩ := ih h
      have : p.1 < low := by rw [Nat.blt_eq] at hb; exact hb
      exact ⟨L, y, h1, by unfold lkx; rw [beq_ne (by omega)]; exact h2, h3⟩
    | false =>
      have hlow : low ≤ p.1 := by
        rcases Nat.lt_or_ge p.1 low with h1 | h1
        · rw [← Nat.blt_eq, hb] at h1; cases h1
        · exact h1
      rw [hb, ren_high hlow] at h
      have h' : (bif Nat.beq (p.1 + d * 16) R then some (p.2.rn (ren ns d)) else lkb (newB (ren ns d) l) R) = some x := h
      cases hq : Nat.beq (p.1 + d * 16) R with
      | true =>
        rw [hq] at h'; cases h'
        exact ⟨p.1, p.2, hlow, by simp [lkx], (Nat.eq_of_beq_eq_true hq).symm, rfl⟩
      | false =>
        rw [hq] at h'
        obtain ⟨L, y, h1, h2, h3, h4⟩ := ih h'
        have hne : p.1 ≠ L := fun e => by rw [e, ← h3, Nat.beq_refl] at hq; cases hq
        exact ⟨L, y, h1, by unfold lkx; rw [beq_ne hne]; exact h2, h3, h4⟩
theorem newB_lkb {ns : List Nm} {d L : Nat} {y : Blk} (hl : low ≤ L) : ∀ {σ : List (Nat × Blk)}, lkx σ L = some y → lkb (newB (ren ns d) σ) (L + d * 16) = some (y.rn (ren ns d)) := by
  intro σ
  induction σ with
  | nil => intro h; cases h
  | cons p l ih =>
    intro h
    unfold lkx at h
    unfold newB
    cases hq : Nat.beq p.1 L with
    | true =>
      rw [hq] at h; cases h
      have e := Nat.eq_of_beq_eq_true hq
      have hb : Nat.blt p.1 low = false := by
        cases hb : Nat.blt p.1 low with
        | false => rfl
        | true => rw [Nat.blt_eq] at hb; omega
      rw [hb, ren_high (by omega)]
      simp [lkb, e]
    | false =>
      rw [hq] at h
      cases hb : Nat.blt p.1 low with
      | true => exact ih h
      | false =>
        have hlow : low ≤ p.1 := by
          rcases Nat.lt_or_ge p.1 low with h1 | h1
          · rw [← Nat.blt_eq, hb] at h1; cases h1
          · exact h1
        rw [ren_high hlow]
        have hne : p.1 + d * 16 ≠ L + d * 16 := fun e => by
          have : p.1 = L := by omega
          rw [this, Nat.beq_refl] at hq; cases hq
        show (bif Nat.beq (p.1 + d * 16) (L + d * 16) then some (p.2.rn (ren ns d)) else lkb (newB (ren ns d) l) (L + d * 16)) = _
        rw [beq_ne hne]; exact ih h
theorem addN_rblk {l : List (Nat × Option Blk)} (hl : ∀ p ∈ l, p.2.isSome = true) (L : Nat) : (s.addN l).rblk L = match lkb l L with | some x => some x | none => s.rblk L := by
  unfold St.addN St.rblk
  induction l with
  | nil => rfl
  | cons p l ih =>
    simp only [List.cons_append, lkb]
    cases hb : Nat.beq p.1 L with
    | true =>
      obtain ⟨x, hx⟩ := Option.isSome_iff_exists.1 (hl p (by simp))
      simp [hx]
    | false => simp only [cond_false]; exact ih (fun q hq => hl q (by simp [hq]))
theorem newB_some {ns : List Nm} {d : Nat} : ∀ {σ : List (Nat × Blk)}, ∀ p ∈ newB (ren ns d) σ, p.2.isSome = true := by
  intro σ
  induction σ with
  | nil => intro p h; cases h
  | cons q l ih =>
    intro p h
    unfold newB at h
    cases hb : Nat.blt q.1 low with
    | true => rw [hb] at h; exact ih p h
    | false =>
      rw [hb] at h
      rcases List.mem_cons.1 h with rfl | h
      · rfl
      · exact ih p h
theorem after_new {ns : List Nm} {d L : Nat} {p : List (Nat × Nat)} {σ : List (Nat × Blk)} {z : Blk} {T : St} (hl : low ≤ L) {y : Blk} (hy : lkx σ L = some y) : (T.addN (newB (ren ns d) σ)).at ⟨L + d * 16, p⟩ z ↔ (y.rn (ren ns d)).At p z := by
  unfold St.at AtL
  rw [addN_rblk newB_some, newB_lkb hl hy]
  exact ⟨fun ⟨x, h1, h2⟩ => by cases h1; exact h2, fun h => ⟨_, rfl, h⟩⟩
theorem after_cases {ns : List Nm} {d : Nat} {D : Nm} {σ : List (Nat × Blk)} {z : Blk} {T : St} (h : (T.addN (newB (ren ns d) σ)).at D z) :
    (∃ L y, low ≤ L ∧ lkx σ L = some y ∧ D.r = L + d * 16 ∧ (y.rn (ren ns d)).At D.p z) ∨ ((∀ L y, low ≤ L → lkx σ L = some y → D.r ≠ L + d * 16) ∧ T.at D z) := by
  unfold St.at AtL at h
  rw [addN_rblk newB_some] at h
  obtain ⟨x, h1, h2⟩ := h
  cases hb : lkb (newB (ren ns d) σ) D.r with
  | some x' =>
    rw [hb] at h1; cases h1
    obtain ⟨L, y, h3, h4, h5, h6⟩ := lkb_newB hb
    exact .inl ⟨L, y, h3, h4, h5, by rw [← h6]; exact h2⟩
  | none =>
    rw [hb] at h1
    exact .inr ⟨fun L y h3 h4 e => (by rw [e, newB_lkb h3 h4] at hb; cases hb), x, h1, h2⟩
end
end Go.Proofs.YtaopjdeigpiejaaDoor
namespace Go.Proofs.YtaopjdeigpiejaaDoor
open Go.RowKit
set_option linter.unusedVariables false

section
variable {P : Program} {E : Ent0} {w w' : World} {s : St} {act : Act} {γ : Nm → Value}

/-- What a call asks for, but for the contract itself. -/
structure CallOk (s : St) (ns : List Nm) (d : Nat) (nw : Bool) (args a0 : AV) (σ0 σ : List (Nat × Blk)) : Prop where
  nd : (ns.map Nm.r).Nodup
  len : ns.length ≤ low
  lend : lends s ns nw 0 ns σ0
  args : ∃ s0 : St, (∀ N x, s.lv N → s0.blk N = some x → s.blk N = some x) ∧ arg s0 ns nw 3 false args a0
  names : ∀ L y, lkx σ L = some y → L < ns.length ∨ (low ≤ L ∧ s.rblk (L + d * 16) = none)
  nest : ∀ k N y, ns[k]? = some N → lkx σ k = some y → N.p ≠ [] → y.nest = true
  drop : ∀ k N, ns[k]? = some N → lkx σ k = none → N.p = []

theorem lend_at {ns : List Nm} {i : Nat} {N : Nm} (h : ns[i]? = some N) : lend ns i = N := by
  unfold lend; rw [List.getD_eq_getElem?_getD, h]; rfl
theorem nodup_idx {ns : List Nm} (h : (ns.map Nm.r).Nodup) {i j : Nat} {N M : Nm} (h1 : ns[i]? = some N) (h2 : ns[j]? = some M) (e : N.r = M.r) : i = j := by
  have a1 : i < (ns.map Nm.r).length := by simpa using (List.getElem?_eq_some_iff.1 h1).1
  have a2 : j < (ns.map Nm.r).length := by simpa using (List.getElem?_eq_some_iff.1 h2).1
  refine (List.getElem_inj (h₀ := a1) (h₁ := a2) h).1 ?_
  have b1 : (ns.map Nm.r)[i]? = some N.r := by simp [h1]
  have b2 : (ns.map Nm.r)[j]? = some M.r := by simp [h2]
  rw [List.getElem?_eq_getElem a1] at b1
  rw [List.getElem?_eq_getElem a2] at b2
  exact (Option.some.inj b1).trans (e.trans (Option.some.inj b2).symm)

set_option maxHeartbeats 2000000 in
theorem Fn.call {f : Nat} {nw : Bool} {args a0 r : AV} {σ0 σ : List (Nat × Blk)} {ns : List Nm} {d : Nat} (hF : Fn P f nw a0 σ0 r σ) (h : Sim E s act w γ) (hc : CallOk s ns d nw args a0 σ0 σ) {vs : List Value} (hr : Reps w (E.ow (s.own γ)) γ args .o vs) (hl : s.live args) :
    Calls P f vs.toArray w fun e w' => ∃ v γ', e = .returned v ∧ Sim E (s.after ns d σ) act w' γ' ∧ Reps w' (E.ow ((s.after ns d σ).own γ')) γ' (r.rn (ren ns d)) .o [v] ∧ (s.after ns d σ).live (r.rn (ren ns d)) := by
  obtain ⟨l1, l2⟩ := lends_at hc.lend
  obtain ⟨s0, hag, hargs0⟩ := hc.args
  -- the callee's begin
  let γ0 : Nm → Value := fun M => γ (M.rn (lend ns))
  have lentAt : ∀ M y, AtL (lkx σ0) M y → ∃ N x, ns[M.r]? = some N ∧ M.rn (lend ns) = ⟨N.r, N.p ++ M.p⟩ ∧ s.at (M.rn (lend ns)) x ∧ argB s ns nw x y := by
    rintro M y ⟨y0, h1, h2⟩
    obtain ⟨i, N, x, e, h3, h4, h5⟩ := l1 M.r y0 h1
    rw [Nat.zero_add] at e
    subst e
    obtain ⟨x', h6, h7⟩ := argB_at h5 h2
    have e2 : M.rn (lend ns) = ⟨N.r, N.p ++ M.p⟩ := by unfold Nm.rn; rw [lend_at h3]
    exact ⟨N, x', h3, e2, by rw [e2]; exact (at_below h4).2 h6, h7⟩
  have subown : ∀ b, ownL σ0 γ0 b → s.own γ b := fun b ⟨M, y, hM, hb⟩ => by
    obtain ⟨N, x, _, _, h3, _⟩ := lentAt M y hM
    exact ⟨_, x, h3, hb⟩
  have ownlt : ∀ b, s.own γ b → b < w.heap.size := fun b ⟨N, x, hN, hb⟩ => (h.mine N x b hN hb).1
  let Z : Nat → Prop := fun b => nw = false ∧ ((s.own γ b ∧ ¬ ownL σ0 γ0 b) ∨ E.z b)
  have zlt : ∀ b, Z b → b < w.heap.size := fun b ⟨_, hb⟩ => hb.elim (fun hb => ownlt b hb.1) (fun hb => Nat.lt_of_lt_of_le (E.zlt b hb) h.fr.size)
  have zb : ∀ b, Z b → ¬ ownL σ0 γ0 b := fun b ⟨_, hb⟩ ho => hb.elim (fun hb => hb.2 ho) (fun hz => by
    obtain ⟨N, x, hN, hNb⟩ := subown b ho
    rcases (h.mine N x b hN hNb).2 with h1 | h1
    · have := E.zlt b hz; omega
    · exact E.zb b hz h1)
  have tab' : TabOk w (ownL σ0 γ0) := by
    obtain ⟨g, hg, h1, h2, t, fr, h3⟩ := E.tab
    refine ⟨g, hg, Nat.lt_of_lt_of_le h1 h.fr.size, fun ho => ?_, t, fr, (h.fr.block g h1 h2).trans h3⟩
    obtain ⟨N, x, hN, hNb⟩ := subown g ho
    rcases (h.mine N x g hN hNb).2 with h4 | h4
    · omega
    · exact h2 h4
  let E' : Ent0 :=
    { w := w, b := ownL σ0 γ0, g := γ0, z := Z, zlt := zlt, zb := zb
      tab := tab'
    }
  have hO : ∀ b f, b < w.heap.size → ¬ E.ow (s.own γ) f b → ¬ E'.ow (ownL σ0 γ0) false b := by
    rintro b f hb hn (h1 | ⟨_, h1 | h1⟩ | ⟨h1, _⟩)
    · exact hn (.inl (subown b h1))
    · exact hn (.inl h1.1)
    · exact hn (.inr (.inl h1))
    · cases h1
  have hV : nw = true → ∀ N x bk, s.at N x → avoid ns N → blkOf (γ N) = some bk → ¬ E'.ow (ownL σ0 γ0) false bk := by
    rintro hv N x bk hN hav hb (⟨M, y, hM, hb'⟩ | ⟨h1, _⟩ | ⟨h1, _⟩)
    · obtain ⟨N', x', h3, h4, h5, _⟩ := lentAt M y hM
      have e := h.inj _ _ _ _ bk hN h5 hb hb'
      rw [h4] at e
      have := (List.all_eq_true.1 hav) N' (List.mem_of_getElem? h3)
      rw [e] at this
      simp at this
    · rw [hv] at h1; cases h1
    · cases h1
  have hpre : Pre E' σ0 := by
    refine ⟨rfl, fun M y hM => ?_, fun M y bk hM hb => ?_, fun M M' y y' bk hM hM' hb hb' => ?_, fun M y N hM hN => ?_⟩
    · obtain ⟨N, x, _, _, h3, h4⟩ := lentAt M y hM
      exact argB_sound h (fun _ => rfl) hO hV h3 h4
    · exact ownlt bk (subown bk ⟨M, y, hM, hb⟩)
    · obtain ⟨N, x, g1, g2, g3, _⟩ := lentAt M y hM
      obtain ⟨N', x', k1, k2, k3, _⟩ := lentAt M' y' hM'
      have e := h.inj _ _ _ _ bk g3 k3 hb hb'
      rw [g2, k2] at e
      have e1 := congrArg Nm.r e
      have e2 := congrArg Nm.p e
      simp only at e1 e2
      have e3 := nodup_idx hc.nd g1 k1 e1
      obtain ⟨m, p⟩ := M
      obtain ⟨m', p'⟩ := M'
      simp only at e3 g1 k1 e2
      subst e3
      rw [g1] at k1; cases k1
      rw [List.append_cancel_left_eq] at e2
      rw [e2]
    · obtain ⟨N', x, g1, g2, g3, g4⟩ := lentAt M y hM
      obtain ⟨h1, h2⟩ := argB_has g4 N hN
      obtain ⟨z, hz⟩ := h.wf.blk _ _ _ g3 h2
      have hN1 : ∃ N1, ns[N.r]? = some N1 := ⟨ns[N.r], List.getElem?_eq_getElem h1⟩
      obtain ⟨N1, hN1⟩ := hN1
      have := l2 N.r N1 hN1
      rw [Nat.zero_add] at this
      obtain ⟨y1, hy1⟩ := Option.isSome_iff_exists.1 this
      obtain ⟨i, N2, x2, e, k3, k4, k5⟩ := l1 N.r y1 hy1
      rw [Nat.zero_add] at e
      subst e
      have e2 : N.rn (lend ns) = ⟨N2.r, N2.p ++ N.p⟩ := by unfold Nm.rn; rw [lend_at k3]
      rw [e2] at hz
      have hz' := (at_below k4).1 hz
      obtain ⟨y', h5, _⟩ := argB_at2 k5 hz'
      exact ⟨y', y1, hy1, h5⟩
  have hargs : Reps w (E'.ow (ownL σ0 γ0)) γ0 a0 .o vs := (arg_sound h hag (fun _ => rfl) hO hV 3 _ _ _ hargs0 hl).1 _ _ hr
  have lentLv : ∀ k N, ns[k]? = some N → s.lv N := fun k N hk => by
    have := l2 k N hk
    rw [Nat.zero_add] at this
    obtain ⟨y1, hy1⟩ := Option.isSome_iff_exists.1 this
    obtain ⟨i, N2, x2, e, k3, k4, _⟩ := l1 k y1 hy1
    rw [Nat.zero_add] at e
    subst e
    rw [hk] at k3; cases k3
    exact ⟨_, k4⟩
  have hnames : ∀ N, a0.has N → ∃ x, AtL (lkx σ0) N x := fun N hN => by
    obtain ⟨h1, h2⟩ := arg_has hargs0 N hN
    obtain ⟨z, hz⟩ := hl _ h2
    have hN1 : ∃ N1, ns[N.r]? = some N1 := ⟨ns[N.r], List.getElem?_eq_getElem h1⟩
    obtain ⟨N1, hN1⟩ := hN1
    have := l2 N.r N1 hN1
    rw [Nat.zero_add] at this
    obtain ⟨y1, hy1⟩ := Option.isSome_iff_exists.1 this
    obtain ⟨i, N2, x2, e, k3, k4, k5⟩ := l1 N.r y1 hy1
    rw [Nat.zero_add] at e
    subst e
    have e2 : N.rn (lend ns) = ⟨N2.r, N2.p ++ N.p⟩ := by unfold Nm.rn; rw [lend_at k3]
    rw [e2] at hz
    obtain ⟨y', h5, _⟩ := argB_at2 k5 ((at_below k4).1 hz)
    exact ⟨y', y1, hy1, h5⟩
  refine Calls.mono (hF.2 E' vs hpre hargs hnames) fun e w' => ?_
  rintro ⟨v, γ', he, hfr, hP, hrep, hnew, hrl⟩
  -- behind the call
  have h1 : Sim E (s.drops (lkx σ) 0 ns) act w γ := h.drops ns 0
  have t1 : Told (s.drops (lkx σ) 0 ns) (lkx σ) 0 ns := told_drops ns 0
  have lvEq : ∀ {D}, (s.drops (lkx σ) 0 ns).lv D ↔ s.lv D := drops_lv ns 0
  have ownEq : (s.drops (lkx σ) 0 ns).own γ = s.own γ := drops_own ns 0
  generalize hs1 : s.drops (lkx σ) 0 ns = s1 at h1 t1 lvEq ownEq
  have hs3 : s.after ns d σ = (s1.back (ren ns d) (lkx σ) 0 ns).addN (newB (ren ns d) σ) := by unfold St.after; rw [hs1]
  rw [hs3]
  generalize hs3' : (s1.back (ren ns d) (lkx σ) 0 ns).addN (newB (ren ns d) σ) = s3
  have hfit : Fit s1 (lkx σ) 0 ns := by
    refine ⟨hc.nd, fun N hN => ?_, fun k N y h2 h3 => hc.nest k N y h2 (by rw [Nat.zero_add] at h3; exact h3), fun k N h2 h3 => hc.drop k N h2 (by rw [Nat.zero_add] at h3; exact h3)⟩
    obtain ⟨k, hk⟩ := List.getElem?_of_mem hN
    exact lvEq.2 (lentLv k N hk)
  have newRoot : ∀ L y, low ≤ L → lkx σ L = some y → ∀ D, s.lv D → D.r ≠ L + d * 16 := fun L y h2 h3 D hD => by
    rcases hc.names L y h3 with h4 | ⟨_, h4⟩
    · have := hc.len; omega
    · exact not_lv h4 hD
  have renK : ∀ k N, ns[k]? = some N → ren ns d k = N := fun k N hk => by
    have h2 : k < ns.length := (List.getElem?_eq_some_iff.1 hk).1
    rw [ren_low (Nat.lt_of_lt_of_le h2 hc.len), lend_at hk]
  have C1 : ∀ (D : Nm) z, s3.at D z → (∃ M y, AtL (lkx σ) M y ∧ D = M.rn (ren ns d) ∧ z = y.rn (ren ns d)) ∨
      ((∀ (k : Nat) (N : Nm), ns[k]? = some N → ¬ ∃ q, D = ⟨N.r, N.p ++ q⟩) ∧ (∀ L y, low ≤ L → lkx σ L = some y → D.r ≠ L + d * 16) ∧ ∃ z1, s1.at D z1 ∧ SameSh z1 z) := by
    intro D z hD
    rw [← hs3'] at hD
    rcases after_cases hD with ⟨L, y, h2, h3, h4, h5⟩ | ⟨h2, h3⟩
    · obtain ⟨y', h6, rfl⟩ := at_rn.1 h5
      refine .inl ⟨⟨L, D.p⟩, y', ⟨y, h3, h6⟩, ?_, rfl⟩
      rw [rn_at, ren_high h2]
      obtain ⟨r, p⟩ := D
      simp only at h4
      rw [h4]; rfl
    · rcases back_at ns 0 hfit h3 with ⟨k, N, y, q, h4, h5, rfl, h6⟩ | ⟨h4, h5⟩
      · obtain ⟨y', h7, rfl⟩ := at_rn.1 h6
        rw [Nat.zero_add] at h5
        refine .inl ⟨⟨k, q⟩, y', ⟨y, h5, h7⟩, ?_, rfl⟩
        rw [rn_at, renK k N h4]
      · exact .inr ⟨h4, h2, h5⟩
  have afterOld : ∀ D, (∀ L y, low ≤ L → lkx σ L = some y → D.r ≠ L + d * 16) → ∀ z, (s1.back (ren ns d) (lkx σ) 0 ns).at D z → s3.at D z := by
    rintro D hD z ⟨x, h2, h3⟩
    rw [← hs3']
    refine ⟨x, ?_, h3⟩
    rw [addN_rblk newB_some]
    cases hb : lkb (newB (ren ns d) σ) D.r with
    | none => exact h2
    | some x' =>
      obtain ⟨L, y, h4, h5, h6, _⟩ := lkb_newB hb
      exact absurd h6 (hD L y h4 h5)
  have C2 : ∀ M y, AtL (lkx σ) M y → s3.at (M.rn (ren ns d)) (y.rn (ren ns d)) := by
    rintro ⟨L, p⟩ y ⟨y0, h2, h3⟩
    simp only at h2 h3
    rcases hc.names L y0 h2 with h4 | ⟨h4, h5⟩
    · have hN : ns[L]? = some ns[L] := List.getElem?_eq_getElem h4
      have h5 := back_kept (ρ := ren ns d) (q := p) (z := y.rn (ren ns d)) (y := y0) ns 0 L _ hfit hN (by rw [Nat.zero_add]; exact h2) (at_rn.2 ⟨y, h3, rfl⟩)
      have e : (⟨L, p⟩ : Nm).rn (ren ns d) = ⟨ns[L].r, ns[L].p ++ p⟩ := by rw [rn_at, renK L _ hN]
      rw [e]
      exact afterOld ⟨ns[L].r, ns[L].p ++ p⟩ (fun L' y' h6 h7 => newRoot L' y' h6 h7 ns[L] (lentLv L _ hN)) _ h5
    · rw [rn_at, ren_high h4, ← hs3']
      exact (after_new h4 h2).2 (at_rn.2 ⟨y, h3, rfl⟩)
  have C3 : ∀ (D : Nm) z, s1.at D z → (∀ (k : Nat) (N : Nm), ns[k]? = some N → ¬ ∃ q, D = ⟨N.r, N.p ++ q⟩) → (∀ (k : Nat) (N : Nm), ns[k]? = some N → lkx σ k = none → D.r ≠ N.r) → s3.lv D := by
    intro D z hD h2 h3
    obtain ⟨z', hz'⟩ := back_old (ρ := ren ns d) ns 0 hfit hD h2 (fun k N h4 h5 => h3 k N h4 (by rw [Nat.zero_add] at h5; exact h5))
    exact ⟨z', afterOld D (fun L y h4 h5 => newRoot L y h4 h5 D (lvEq.1 ⟨z, hD⟩)) z' hz'⟩
  have img : ∀ M y, AtL (lkx σ) M y → (∃ N, ns[M.r]? = some N ∧ M.rn (ren ns d) = ⟨N.r, N.p ++ M.p⟩) ∨ (low ≤ M.r ∧ (∃ y0, lkx σ M.r = some y0) ∧ M.rn (ren ns d) = ⟨M.r + d * 16, M.p⟩) := by
    rintro ⟨L, p⟩ y ⟨y0, h2, h3⟩
    simp only at h2 h3 ⊢
    rcases hc.names L y0 h2 with h4 | ⟨h4, h5⟩
    · have hN : ns[L]? = some ns[L] := List.getElem?_eq_getElem h4
      exact .inl ⟨_, hN, by rw [rn_at, renK L _ hN]⟩
    · exact .inr ⟨h4, ⟨y0, h2⟩, by rw [rn_at, ren_high h4]; rfl⟩
  have notimg : ∀ (D : Nm), (∀ (k : Nat) (N : Nm), ns[k]? = some N → ¬ ∃ q, D = ⟨N.r, N.p ++ q⟩) → (∀ L y, low ≤ L → lkx σ L = some y → D.r ≠ L + d * 16) → ¬ ∃ M y, AtL (lkx σ) M y ∧ D = M.rn (ren ns d) := by
    rintro D h2 h3 ⟨M, y, hM, rfl⟩
    rcases img M y hM with ⟨N, h4, h5⟩ | ⟨h4, ⟨y0, h6⟩, h5⟩
    · exact h2 M.r N h4 ⟨M.p, h5⟩
    · exact h3 M.r y0 h4 h6 (by rw [h5])
  have I : ∀ M M' y y', AtL (lkx σ) M y → AtL (lkx σ) M' y' → M.rn (ren ns d) = M'.rn (ren ns d) → M = M' := by
    intro M M' y y' hM hM' e
    rcases img M y hM with ⟨N, h4, h5⟩ | ⟨h4, ⟨y0, h6⟩, h5⟩ <;> rcases img M' y' hM' with ⟨N', k4, k5⟩ | ⟨k4, ⟨y0', k6⟩, k5⟩
    · rw [h5, k5] at e
      have e1 := congrArg Nm.r e
      have e2 := congrArg Nm.p e
      simp only at e1 e2
      have e3 := nodup_idx hc.nd h4 k4 e1
      obtain ⟨m, p⟩ := M
      obtain ⟨m', p'⟩ := M'
      simp only at e3 h4 k4 e2
      subst e3
      rw [h4] at k4; cases k4
      rw [List.append_cancel_left_eq] at e2
      rw [e2]
    · rw [h5, k5] at e
      exact absurd (congrArg Nm.r e) (newRoot _ _ k4 k6 N (lentLv _ N h4))
    · rw [h5, k5] at e
      exact absurd (congrArg Nm.r e).symm (newRoot _ _ h4 h6 N' (lentLv _ N' k4))
    · rw [h5, k5] at e
      have e1 := congrArg Nm.r e
      have e2 := congrArg Nm.p e
      simp only at e1 e2
      obtain ⟨m, p⟩ := M
      obtain ⟨m', p'⟩ := M'
      simp only at e1 e2
      have e3 : m = m' := by omega
      rw [e3, e2]
  obtain ⟨γ3, g1, g2⟩ : ∃ γ3 : Nm → Value, (∀ M y, AtL (lkx σ) M y → γ3 (M.rn (ren ns d)) = γ' M) ∧ (∀ D, (¬ ∃ M y, AtL (lkx σ) M y ∧ D = M.rn (ren ns d)) → γ3 D = γ D) := by
    classical
    refine ⟨fun D => if hD : ∃ M y, AtL (lkx σ) M y ∧ D = M.rn (ren ns d) then γ' (Classical.choose hD) else γ D, fun M y hM => ?_, fun D hD => by simp only [dif_neg hD]⟩
    have hD : ∃ M' y', AtL (lkx σ) M' y' ∧ M.rn (ren ns d) = M'.rn (ren ns d) := ⟨M, y, hM, rfl⟩
    simp only [dif_pos hD]
    obtain ⟨y', hy', e⟩ := Classical.choose_spec hD
    rw [I _ _ y' y hy' hM e.symm]
  have hdK : ∀ k N, ns[k]? = some N → ∀ y, lkx σ k = some y → γ3 N = γ N := fun k N hk y hy => by
    have hlt : k < ns.length := (List.getElem?_eq_some_iff.1 hk).1
    have e : (rt k).rn (ren ns d) = N := by rw [rn_rt, renK k N hk]
    have h2 := g1 (rt k) y ⟨y, hy, rfl⟩
    rw [e] at h2
    rw [h2, hP.hd k y (Nat.lt_of_lt_of_le hlt hc.len) hy]
    show γ ((rt k).rn (lend ns)) = γ N
    rw [rn_rt, lend_at hk]
  have told : ∀ (D : Nm), s1.lv D → (∀ k N, ns[k]? = some N → D.r = N.r → (lkx σ k).isSome = true ∧ D.p.length ≤ N.p.length) → γ3 D = γ D ∧ s3.lv D := by
    intro D hD hk
    by_cases hu : ∃ (k : Nat) (N : Nm), ns[k]? = some N ∧ ∃ q, D = ⟨N.r, N.p ++ q⟩
    · obtain ⟨k, N, h2, q, rfl⟩ := hu
      obtain ⟨h3, h4⟩ := hk k N h2 rfl
      obtain ⟨y, hy⟩ := Option.isSome_iff_exists.1 h3
      have h5 : q = [] := by
        have h6 : (N.p ++ q).length ≤ N.p.length := h4
        rw [List.length_append] at h6
        exact List.eq_nil_of_length_eq_zero (by omega)
      have e : (⟨N.r, N.p ++ q⟩ : Nm) = N := by obtain ⟨r, p⟩ := N; simp only [h5, List.append_nil]
      rw [e]
      refine ⟨hdK k N h2 y hy, ?_⟩
      have h6 := C2 (rt k) y ⟨y, hy, rfl⟩
      rw [rn_rt, renK k N h2] at h6
      exact ⟨_, h6⟩
    · have h2 : ∀ (k : Nat) (N : Nm), ns[k]? = some N → ¬ ∃ q, D = ⟨N.r, N.p ++ q⟩ := fun k N h3 h4 => hu ⟨k, N, h3, h4⟩
      obtain ⟨z, hz⟩ := hD
      refine ⟨g2 D (notimg D h2 (fun L y h4 h5 => newRoot L y h4 h5 D (lvEq.1 ⟨z, hz⟩))), C3 D z hz h2 (fun k N h4 h5 e => ?_)⟩
      have := (hk k N h4 e).1
      rw [h5] at this; cases this
  have toldS : ∀ t D, (s1.slot t).has D → γ3 D = γ D ∧ s3.lv D := fun t D hD => told D (h1.wf.slot t D hD) (fun k N h2 h3 => by have := t1.slot t D hD k N h2 h3; rwa [Nat.zero_add] at this)
  have toldB : ∀ M y D, s1.at M y → y.has D → γ3 D = γ D ∧ s3.lv D := fun M y D hM hD => told D (h1.wf.blk M y D hM hD) (fun k N h2 h3 => by have := t1.blk M y D hM hD k N h2 h3; rwa [Nat.zero_add] at this)
  have kidh : ∀ (D : Nm), (∀ (k : Nat) (N : Nm), ns[k]? = some N → ¬ ∃ q, D = ⟨N.r, N.p ++ q⟩) → ∀ i j, s1.lv (D.kid i j) → γ3 (D.kid i j) = γ (D.kid i j) := by
    intro D h2 i j hlv
    by_cases hi : ∃ M y, AtL (lkx σ) M y ∧ D.kid i j = M.rn (ren ns d)
    · obtain ⟨M, y, hM, e⟩ := hi
      rcases img M y hM with ⟨N, h4, h5⟩ | ⟨h4, ⟨y0, h6⟩, h5⟩
      · rw [h5] at e
        have e1 : D.r = N.r := by have := congrArg Nm.r e; exact this
        have e2 : D.p ++ [(i, j)] = N.p ++ M.p := by have := congrArg Nm.p e; exact this
        rcases List.eq_nil_or_concat M.p with h7 | ⟨l, x, h7⟩
        · rw [h7, List.append_nil] at e2
          have e3 : D.kid i j = N := by obtain ⟨r, p⟩ := N; unfold Nm.kid; simp only at e1 e2; rw [e1, e2]
          rw [e3]
          have hM' : M = rt M.r := by obtain ⟨m, p⟩ := M; simp only at h7; rw [h7]
          obtain ⟨y0, h8, _⟩ := hM
          exact hdK M.r N h4 y0 h8
        · exfalso
          rw [h7, List.concat_eq_append, ← List.append_assoc] at e2
          have := List.append_inj_left' e2 rfl
          exact h2 M.r N h4 ⟨l, by obtain ⟨r, p⟩ := D; simp only at e1 this ⊢; rw [e1, this]⟩
      · rw [h5] at e
        exact absurd (congrArg Nm.r e) (newRoot _ _ h4 h6 _ (lvEq.1 hlv))
    · exact g2 _ hi
  have oldown : ∀ (D : Nm) z bk, s1.at D z → (∀ (k : Nat) (N : Nm), ns[k]? = some N → ¬ ∃ q, D = ⟨N.r, N.p ++ q⟩) → blkOf (γ D) = some bk → ¬ ownL σ0 γ0 bk := by
    rintro D z bk hD h2 hb ⟨M, y, hM, hb'⟩
    obtain ⟨N, x, k1, k2, k3, _⟩ := lentAt M y hM
    obtain ⟨z', hz'⟩ := lvEq.1 ⟨z, hD⟩
    have := h.inj _ _ _ _ bk hz' k3 hb hb'
    rw [k2] at this
    exact h2 M.r N k1 ⟨_, this⟩
  have own3 : ∀ b, s3.own γ3 b → ownL σ γ' b ∨ (s.own γ b ∧ ¬ ownL σ0 γ0 b) := by
    rintro b ⟨D, z, hD, hb⟩
    rcases C1 D z hD with ⟨M, y, hM, rfl, rfl⟩ | ⟨h2, h3, z1, h4, _⟩
    · rw [g1 M y hM] at hb; exact .inl ⟨M, y, hM, hb⟩
    · rw [g2 D (notimg D h2 h3)] at hb
      exact .inr ⟨by rw [← ownEq]; exact ⟨D, z1, h4, hb⟩, oldown D z1 b h4 h2 hb⟩
  have K : ∀ (f : Bool) b, (nw = false ∨ f = true) → ¬ E'.ow (ownL σ γ') f b → ¬ E.ow (s3.own γ3) f b := by
    rintro f b hf hn (h2 | h2 | ⟨h2, h3⟩)
    · rcases own3 b h2 with h3 | h3
      · exact hn (.inl h3)
      · rcases hf with hf | hf
        · exact hn (.inr (.inl ⟨hf, .inl h3⟩))
        · exact hn (.inr (.inr ⟨hf, ownlt b h3.1⟩))
    · rcases hf with hf | hf
      · exact hn (.inr (.inl ⟨hf, .inr h2⟩))
      · exact hn (.inr (.inr ⟨hf, Nat.lt_of_lt_of_le (E.zlt b h2) h.fr.size⟩))
    · exact hn (.inr (.inr ⟨h2, Nat.lt_of_lt_of_le h3 h.fr.size⟩))
  have KK : nw = false → Keeps w' w' (E'.ow (ownL σ γ')) (E.ow (s3.own γ3)) := fun hf => ⟨Nat.le_refl _, fun _ _ _ _ => rfl, fun f b _ hn => K f b (.inl hf) hn⟩
  have KR : Keeps w' w' (E.ow (s3.own γ3)) (E.ow (s3.own γ3)) := ⟨Nat.le_refl _, fun _ _ _ _ => rfl, fun f b _ hn => hn⟩
  have conv : ∀ (M : Nm) (y : Blk), AtL (lkx σ) M y → BlkOk w' (E.ow (s3.own γ3)) γ3 (M.rn (ren ns d)) (y.rn (ren ns d)) := by
    intro M y hM
    refine BlkOk.rn.2 ?_
    have hb := hP.blks M y hM
    have kid' : ∀ e c i j, y = .row e c → i < c.len → j < c.st → (c.cell i j).sub.isSome = true → γ3 ((M.kid i j).rn (ren ns d)) = γ' (M.kid i j) := fun e c i j hy hi hj hs => by
      obtain ⟨z, hz⟩ := Option.isSome_iff_exists.1 hs
      subst hy
      exact g1 _ z (at_kid hM hi hj hz)
    have nam' : ∀ N, y.has N → γ3 (N.rn (ren ns d)) = γ' N := fun N hN => by
      obtain ⟨z, hz⟩ := hP.wf M y N hM hN
      exact g1 N z hz
    cases hw : nw with
    | false => exact hb.1.keep (KK hw) (g1 M y hM) nam' kid' (fun _ _ => rfl)
    | true =>
      have h2 : BlkOk w' (E.ow (s3.own γ3)) γ' M y := hb.1.keepT (hb.2 hw) (Nat.le_refl _) (fun k _ hn => ⟨rfl, K true k (.inr rfl) hn⟩) (fun _ _ => rfl)
      exact h2.keep KR (g1 M y hM) nam' kid' (fun _ _ => rfl)
  have hS : Sim E s3 act w' γ3 := by
    refine h1.build ⟨hfr.os, hfr.tape, hfr.output, hfr.size, fun k hk hn => hfr.block k hk (fun hb => hn (by rw [ownEq]; exact subown k hb))⟩ ?_ h1.defers ?_ ?_ ?_ ?_ ⟨?_, ?_⟩ ?_
    · rw [h1.size, ← hs3']; exact (back_n ns 0).symm
    · intro D z hD bk hb
      rcases C1 D z hD with ⟨M, y, hM, rfl, rfl⟩ | ⟨h2, h3, z1, h4, _⟩
      · rw [g1 M y hM] at hb
        obtain ⟨h5, h6⟩ := hP.mine M y bk hM hb
        rcases h6 with h6 | h6
        · exact .inl ⟨h6, h5⟩
        · exact .inr (by rw [ownEq]; exact subown bk h6)
      · rw [g2 D (notimg D h2 h3)] at hb; exact .inr ⟨D, z1, h4, hb⟩
    · have mixed : ∀ (M : Nm) y (D : Nm) z1 bk, AtL (lkx σ) M y → s1.at D z1 → (∀ (k : Nat) (N : Nm), ns[k]? = some N → ¬ ∃ q, D = ⟨N.r, N.p ++ q⟩) → blkOf (γ' M) = some bk → blkOf (γ D) = some bk → False := by
        intro M y D z1 bk hM hD h2 hb hb'
        rcases (hP.mine M y bk hM hb).2 with h3 | h3
        · have h4 := (h1.mine D z1 bk hD hb').1
          have h5 : w.heap.size ≤ bk := h3
          omega
        · exact oldown D z1 bk hD h2 hb' h3
      intro D D' z z' bk hD hD' hb hb'
      rcases C1 D z hD with ⟨M, y, hM, rfl, rfl⟩ | ⟨h2, h3, z1, h4, _⟩ <;> rcases C1 D' z' hD' with ⟨M', y', hM', rfl, rfl⟩ | ⟨k2, k3, z1', k4, _⟩
      · rw [g1 M y hM] at hb; rw [g1 M' y' hM'] at hb'
        rw [hP.inj M M' y y' bk hM hM' hb hb']
      · rw [g1 M y hM] at hb; rw [g2 D' (notimg D' k2 k3)] at hb'
        exact (mixed M y D' z1' bk hM k4 k2 hb hb').elim
      · rw [g2 D (notimg D h2 h3)] at hb; rw [g1 M' y' hM'] at hb'
        exact (mixed M' y' D z1 bk hM' h4 h2 hb' hb).elim
      · rw [g2 D (notimg D h2 h3)] at hb; rw [g2 D' (notimg D' k2 k3)] at hb'
        exact h1.inj D D' z1 z1' bk h4 k4 hb hb'
    · intro hk t
      have e : s3.slot t = s1.slot t := by rw [← hs3']; exact back_slot t ns 0
      rw [e]
      exact ((h1.slots t).keep hk).gam (fun _ D hD => (toldS t D hD).1)
    · intro hk D z hD
      rcases C1 D z hD with ⟨M, y, hM, rfl, rfl⟩ | ⟨h2, h3, z1, h4, h5⟩
      · exact conv M y hM
      · refine BlkOk.same ?_ h5
        refine (h1.blks D z1 h4).keep hk (g2 D (notimg D h2 h3)) (fun N hN => (toldB D z1 N h4 hN).1) (fun e c i j hz hi hj hs => ?_) (fun bk hb => ?_)
        · obtain ⟨z2, hz2⟩ := Option.isSome_iff_exists.1 hs
          subst hz
          exact kidh D h2 i j ⟨z2, at_kid h4 hi hj hz2⟩
        · exact hfr.block bk (h1.mine D z1 bk h4 hb).1 (fun h6 => oldown D z1 bk h4 h2 hb h6)
    · intro t D hD
      have e : s3.slot t = s1.slot t := by rw [← hs3']; exact back_slot t ns 0
      rw [e] at hD
      exact (toldS t D hD).2
    · intro M z D hM hD
      rcases C1 M z hM with ⟨M0, y, hM0, rfl, rfl⟩ | ⟨h2, h3, z1, h4, h5⟩
      · obtain ⟨N, h6, rfl⟩ := hasB_rn.1 hD
        obtain ⟨z2, hz2⟩ := hP.wf M0 y N hM0 h6
        exact ⟨_, C2 N z2 hz2⟩
      · exact (toldB M z1 D h4 (h5.has hD)).2
    · intro L hL hlv
      obtain ⟨z, hz⟩ := hlv
      rcases C1 (rt L) z hz with ⟨M, y, hM, e1, _⟩ | ⟨h2, h3, z1, h4, _⟩
      · rcases img M y hM with ⟨N, k4, k5⟩ | ⟨k4, _, k5⟩
        · rw [k5] at e1
          have e2 : L = N.r := congrArg Nm.r e1
          have e3 : [] = N.p ++ M.p := congrArg Nm.p e1
          have e4 : N.p = [] ∧ M.p = [] := by simpa using e3.symm
          have e5 : rt L = N := by obtain ⟨r, p⟩ := N; simp only at e2 e4; rw [e2, e4.1]
          obtain ⟨y0, h8, _⟩ := hM
          rw [e5, hdK M.r N k4 y0 h8, ← e5]
          exact h.hd L hL (by rw [e5]; exact lentLv _ N k4)
        · rw [k5] at e1
          have e2 : L = M.r + d * 16 := congrArg Nm.r e1
          omega
      · rw [g2 _ (notimg _ h2 h3)]
        exact h1.hd L hL ⟨z1, h4⟩
  refine ⟨v, γ3, he, hS, ?_, fun D hD => ?_⟩
  · refine Reps.rn.2 ?_
    have nam' : ∀ N, r.has N → γ3 (N.rn (ren ns d)) = γ' N := fun N hN => by
      obtain ⟨z, hz⟩ := hrl N hN
      exact g1 N z hz
    cases hw : nw with
    | false => exact (hrep.keep (KK hw)).gam (fun _ N hN => nam' N hN)
    | true =>
      have h2 := hrep.keepT (own' := E.ow (s3.own γ3)) (Nat.le_refl _) (fun k _ hn => ⟨rfl, K true k (.inr rfl) hn⟩) (.inl (hnew hw))
      exact h2.gam (fun _ N hN => nam' N hN)
  · obtain ⟨N, h6, rfl⟩ := has_rn.1 hD
    obtain ⟨z2, hz2⟩ := hrl N h6
    exact ⟨_, C2 N z2 hz2⟩
end
end Go.Proofs.YtaopjdeigpiejaaDoor
namespace Go.Proofs.YtaopjdeigpiejaaDoor
open Go.RowKit Go.MapKept
set_option linter.unusedVariables false

/-- What comes of an operation that writes. -/
inductive SRes where
  | ok (p : Prop) (s : St)
  | bad

def Ct.set (k j : Nat) (m : AV) : Ct → Option Ct
  | .ints q xs => match m with | .int q' n => bif decide (q' = q) then some (.ints q (xs.set k n)) else none | _ => none
  | .bools xs => match m with | .b x => some (.bools (xs.set k x)) | .tt => some (.bools (xs.set k true)) | .ff => some (.bools (xs.set k false)) | _ => none
  | .tab n st cell => some (.tab n st fun k' j' => bif Nat.ble j j' && Nat.blt j' (j + m.len) && Nat.beq k' k then m.nth (j' - j) else cell k' j')
/-- Are there slices of one's own in the cells j, .., j + n of the row's element k? -/
def ownCells (c : Ct) (k j : Nat) : Nat → Bool
  | 0 => false
  | n + 1 => (c.cell k j).sub.isSome || ownCells c k (j + 1) n
/-- Slices that are given to the cells into which they are stored. -/
def mvOf1 (N : Nm) (j : Nat) (a : AV) (s : St) : List (Nat × Nat) :=
  match a with
  | .os M => (match M.p with | [] => bif Nat.ble low M.r && !Nat.beq M.r N.r && (match s.rblk M.r with | some y => y.nest | none => false) then [(j, M.r)] else [] | _ :: _ => [])
  | _ => []
def mvOf (s : St) (N : Nm) : Nat → AV → List (Nat × Nat)
  | j, .cons a l => mvOf1 N j a s ++ mvOf s N (j + 1) l
  | j, a => mvOf1 N j a s
def mvOk : List (Nat × Nat) → Bool
  | [] => true
  | p :: l => (l.all fun q => !Nat.beq q.1 p.1 && !Nat.beq q.2 p.2) && mvOk l
def St.mvs (s : St) (N : Nm) (k : Nat) : List (Nat × Nat) → St
  | [] => s
  | p :: l => (s.mv N k p.1 p.2).mvs N k l
def stoA (s : St) (size : Nat) (a x : AV) : SRes :=
  match a with
  | .op N j =>
    match s.blk N with
    | some (.box l) => bif x.flat && Nat.beq x.cells.len size && Nat.ble (j + size) l.len then .ok True (s.setN N (.box (l.splice j x.cells))) else .bad
    | _ => .bad
  | .oe N st k j =>
    match s.blk N with
    | some (.row e c) =>
      bif x.flat && Nat.beq x.cells.len size && Nat.ble (j + size) st && Nat.beq c.st st && mvOk (mvOf s N j x.cells) then
        (bif ownCells c k j size then
          (match (c.kill (kids N.r)).set k j (x.cells.kill (kids N.r)) with
           | some c' => .ok (k < c.len) (((s.kill (kids N.r)).setN N (.row e c')).mvs N k (mvOf s N j x.cells))
           | none => .bad)
         else
          (match c.set k j x.cells with
           | some c' => .ok (k < c.len) ((s.setN N (.row e c')).mvs N k (mvOf s N j x.cells))
           | none => .bad))
      else .bad
    | _ => .bad
  | _ => .bad
def mupA (s : St) (t : Nat) (a k x : AV) : SRes :=
  match a, k with
  | .om N, .int .i64 n =>
    (match s.blk N with
     | some (.mp t' m) =>
       bif Nat.beq t' t then
         (match m, x with
          | .ints q es, .int q' v => bif decide (q' = q) then .ok True (s.setN N (.mp t (.ints q (mset es n v)))) else .bad
          | .bools es, .b v => .ok True (s.setN N (.mp t (.bools (mset es n v))))
          | .bools es, .tt => .ok True (s.setN N (.mp t (.bools (mset es n true))))
          | .bools es, .ff => .ok True (s.setN N (.mp t (.bools (mset es n false))))
          | _, _ => .bad)
       else .bad
     | _ => .bad)
  | _, _ => .bad
/-- x[lo:] -/
def trimA (s : St) (e d : Nat) (x lo : AV) : SRes :=
  match x, lo with
  | .os N, .int _ m =>
    (match N.p, s.blk N with
     | [], some (.row e' (.ints k xs)) => bif Nat.beq e' e && Nat.ble low N.r then .ok (0 ≤ m ∧ m ≤ xs.length) (((s.kill (atR N.r)).setB N.r (some (.row e (.ints k (xs.drop m.toNat))))).put d (.os (rt N.r))) else .bad
     | _, _ => .bad)
  | _, _ => .bad
/-- x[:hi] -/
def cutA (s : St) (e d : Nat) (x hi : AV) : SRes :=
  match x, hi with
  | .os N, .int _ m =>
    (match N.p, s.blk N with
     | [], some (.row e' (.tab n st cell)) => bif Nat.beq e' e && Nat.ble low N.r then .ok (0 ≤ m ∧ m ≤ n) (((s.kill (atR N.r)).setB N.r (some (.row e (.tab m.toNat st fun i j => (cell i j).kill (atR N.r))))).put d (.os (rt N.r))) else .bad
     | _, _ => .bad)
  | _, _ => .bad

section
variable {P : Program} {E : Ent0} {w w' : World} {s : St} {act : Act} {γ : Nm → Value}

/-- A row one of whose elements was written. -/
def SetOk (c c' : Ct) (k j : Nat) (m : AV) : Prop :=
    c'.len = c.len ∧ c'.st = c.st ∧
    (∀ k' j', k' < c.len → j' < c.st → ¬ (k' = k ∧ j ≤ j' ∧ j' < j + m.len) → c'.cell k' j' = c.cell k' j') ∧
    (∀ i, i < m.len → ((m.nth i).sub = none → (c'.cell k (j + i)).sub = none) ∧ (∀ M, m.nth i = .os M → c'.cell k (j + i) = .os M) ∧ ∀ (w : World) (own : Bool → Nat → Prop) (γ : Nm → Value) ro vs, Reps w own γ (m.nth i) ro vs → Reps w own γ (c'.cell k (j + i)) ro vs) ∧
    (∀ k' j' M, (c'.cell k' j').has M → m.has M ∨ (c.cell k' j').has M)
theorem blt_of {a b : Nat} (h : a < b) : Nat.blt a b = true := by rw [Nat.blt_eq]; exact h
theorem set_spec {c c' : Ct} {k j : Nat} {m : AV} (h : c.set k j m = some c') (hk : k < c.len) (hj : j + m.len ≤ c.st) (hm : 0 < m.len) : SetOk c c' k j m := by
  cases c with
  | ints q xs =>
    cases m with
    | int q' n =>
      simp only [Ct.set] at h
      cases hd : decide (q' = q) with
      | false => rw [hd] at h; cases h
      | true =>
        rw [hd] at h
        cases h
        obtain rfl := of_decide_eq_true hd
        have hk' : k < xs.length := hk
        refine ⟨by simp [Ct.len], rfl, fun k' j' h1 h2 h3 => ?_, fun i hi => ⟨fun _ => rfl, fun M hM => ?_, fun w own γ ro vs hr => ?_⟩, fun k' j' M hM => hM.elim⟩
        · have h2' : j' < 1 := h2
          have hj' : j + 1 ≤ 1 := hj
          have hne : k ≠ k' := fun e => h3 ⟨e.symm, by omega, by simp only [AV.len]; omega⟩
          simp [Ct.cell, ci, List.getElem?_set_ne hne]
        · have hi' : i < 1 := hi
          obtain rfl : i = 0 := by omega
          cases hM
        · have hi' : i < 1 := hi
          obtain rfl : i = 0 := by omega
          have : (AV.int q' n).nth 0 = .int q' n := rfl
          rw [this] at hr
          simpa [Ct.cell, ci, hk'] using hr
    | _ => cases h
  | bools xs =>
    have key : ∀ x : Bool, (∀ (w : World) (own : Bool → Nat → Prop) (γ : Nm → Value) ro vs, Reps w own γ (m.nth 0) ro vs → Reps w own γ (.b x) ro vs) → (∀ M, m.nth 0 ≠ .os M) → m.len = 1 → c' = .bools (xs.set k x) → SetOk (.bools xs) c' k j m := fun x hx hno hl hc => by
      subst hc
      have hk' : k < xs.length := hk
      exact ⟨by simp [Ct.len], rfl, fun k' j' h1 h2 h3 => by
          have h2' : j' < 1 := h2
          have hj' : j + m.len ≤ 1 := hj
          have hne : k ≠ k' := fun e => h3 ⟨e.symm, by omega, by omega⟩
          simp [Ct.cell, cb, List.getElem?_set_ne hne], fun i hi => ⟨fun _ => rfl, fun M hM => by
            have hi0 : i = 0 := by omega
            rw [hi0] at hM; exact absurd hM (hno M), fun w own γ ro vs hr => by
          have hi0 : i = 0 := by omega
          rw [hi0] at hr ⊢
          have := hx w own γ ro vs hr
          simpa [Ct.cell, cb, hk'] using this⟩, fun k' j' M hM => hM.elim⟩
    cases m with
    | b x => cases h; exact key x (fun _ _ _ _ _ h => h) (fun M h => by cases h) rfl rfl
    | tt => cases h; exact key true (fun _ _ _ _ _ h => h) (fun M h => by cases h) rfl rfl
    | ff => cases h; exact key false (fun _ _ _ _ _ h => h) (fun M h => by cases h) rfl rfl
    | _ => cases h
  | tab n st cell =>
    cases h
    have hin : ∀ i, i < m.len → (bif Nat.ble j (j + i) && Nat.blt (j + i) (j + m.len) && Nat.beq k k then m.nth (j + i - j) else cell k (j + i)) = m.nth i := fun i hi => by
      have h1 : Nat.ble j (j + i) = true := Nat.ble_eq_true_of_le (by omega)
      have h2 : Nat.blt (j + i) (j + m.len) = true := blt_of (by omega)
      simp only [Nat.beq_refl, h1, h2, Bool.and_self, cond_true, Nat.add_sub_cancel_left]
    refine ⟨rfl, rfl, fun k' j' h1 h2 h3 => ?_, fun i hi => ⟨fun hs => ?_, fun M hM => ?_, fun w own γ ro vs hr => ?_⟩, fun k' j' M hM => ?_⟩
    · show (bif Nat.ble j j' && Nat.blt j' (j + m.len) && Nat.beq k' k then m.nth (j' - j) else cell k' j') = cell k' j'
      cases hb : (Nat.ble j j' && Nat.blt j' (j + m.len) && Nat.beq k' k) with
      | false => rfl
      | true =>
        simp only [Bool.and_eq_true] at hb
        exact absurd ⟨Nat.eq_of_beq_eq_true hb.2, Nat.le_of_ble_eq_true hb.1.1, blt_pos hb.1.2⟩ h3
    · show (bif Nat.ble j (j + i) && Nat.blt (j + i) (j + m.len) && Nat.beq k k then m.nth (j + i - j) else cell k (j + i)).sub = none
      rw [hin i hi]; exact hs
    · show (bif Nat.ble j (j + i) && Nat.blt (j + i) (j + m.len) && Nat.beq k k then m.nth (j + i - j) else cell k (j + i)) = .os M
      rw [hin i hi]; exact hM
    · show Reps w own γ (bif Nat.ble j (j + i) && Nat.blt (j + i) (j + m.len) && Nat.beq k k then m.nth (j + i - j) else cell k (j + i)) ro vs
      rw [hin i hi]; exact hr
    · have hM' : (bif Nat.ble j j' && Nat.blt j' (j + m.len) && Nat.beq k' k then m.nth (j' - j) else cell k' j').has M := hM
      cases hb : (Nat.ble j j' && Nat.blt j' (j + m.len) && Nat.beq k' k) with
      | false => rw [hb] at hM'; exact .inr hM'
      | true => rw [hb] at hM'; exact .inl (has_nth hM')

theorem run_storeAt {t : Nat} {i : TyI} (hi : tyChk P t i = true) {bk o : Nat} {us : List Value} {ty : TypeId} {v : Value} (hh : w.heap[bk]? = some (.cells us.toArray ty (0, 0))) (hs : v.cells.size = i.size) (hl : o + i.size ≤ us.length)
    (h1 : ∀ u ∈ v.cells.toList, u.oneCell' = true) :
    (Instr.storeAt t (.pointer (some ⟨bk, o, none⟩)) v).run P w = .ok () (w.setRow bk (us.take o ++ v.cells.toList ++ us.drop (o + i.size)).toArray) := by
  obtain ⟨inf, z, i1, i2, i3, i4, i5⟩ := tyChk_info hi
  have hr := run_storeCells_at P bk o ty v.cells.toList 0 us.toArray w hh (by simp [hs]; exact hl) h1
  simp only [Nat.add_zero, Array.length_toList, hs] at hr
  simp [Instr.storeAt, Instr.sureAddr, storeVar, sizeOf, typeInfo, i1, i2, hs, hr]
theorem setRow_size (w : World) (g : Nat) (cs : Array Value) : (w.setRow g cs).heap.size = w.heap.size := by simp [World.setRow]

/-- A block of one's own is written; slices of one's own in its cells may be given up, if nothing speaks of them. -/
theorem Sim.writeD (h : Sim E s act w γ) {N : Nm} {bk : Nat} {y y0 : Blk} (hN : s.at N y0) (hbk : blkOf (γ N) = some bk) (hnest : N.p ≠ [] → y.nest = true) (hos : w'.os = w.os) (htape : w'.tape = w.tape) (hout : w'.output = w.output)
    (hs : w'.heap.size = w.heap.size) (hb : ∀ k, k ≠ bk → w'.heap[k]? = w.heap[k]?) (hx : ∀ M, y.has M → s.lv M ∧ (M.r = N.r → M.p = []))
    (hsub1 : ∀ r z, r ≠ [] → y.At r z → y0.At r z) (hk1 : ∀ t M, (s.slot t).has M → M.r = N.r → M.p = []) (hk2 : ∀ D z M, s.at D z → z.has M → M.r = N.r → M.p = [])
    (hok : Keeps w w' (E.ow (s.own γ)) (E.ow ((s.setN N y).own γ)) → BlkOk w' (E.ow ((s.setN N y).own γ)) γ N y) : Sim E (s.setN N y) act w' γ := by
  have ho : s.own γ bk := ⟨N, y0, hN, hbk⟩
  have cs : ∀ {D z}, (s.setN N y).at D z → (D = N ∧ z = y) ∨ (D ≠ N ∧ ∃ z1, s.at D z1 ∧ SameSh z1 z) := by
    intro D z hD
    rcases at_setN hN hnest hD with ⟨r, rfl, hr⟩ | ⟨hr, z1, h1, h2⟩
    · cases r with
      | nil => cases hr; exact .inl ⟨by simp, rfl⟩
      | cons q r =>
        refine .inr ⟨fun e => ?_, z, (at_below hN).2 (hsub1 _ _ (by simp) hr), SameSh.refl z⟩
        have := congrArg Nm.p e
        simp at this
    · exact .inr ⟨fun e => hr ⟨[], by rw [e]; simp⟩, z1, h1, h2⟩
  have lv : ∀ {D : Nm}, s.lv D → (D.r = N.r → D.p = []) → (s.setN N y).lv D := by
    rintro D ⟨z, hz⟩ hp
    by_cases e : ∃ r, D = ⟨N.r, N.p ++ r⟩
    · obtain ⟨r, rfl⟩ := e
      have h3 : N.p = [] ∧ r = [] := by simpa using hp rfl
      rw [h3.2, List.append_nil]
      exact ⟨y, setN_at hN hnest⟩
    · exact setN_old hN hnest hz e
  have hin : ∀ {D z}, (s.setN N y).at D z → ∃ z1, s.at D z1 := by
    intro D z hD
    rcases cs hD with ⟨rfl, rfl⟩ | ⟨_, z1, h1, _⟩
    · exact ⟨_, hN⟩
    · exact ⟨_, h1⟩
  refine h.build ⟨hos, htape, hout, Nat.le_of_eq hs.symm, fun k _ hn => hb k (fun e => hn (e ▸ ho))⟩ (by rw [setN_n]; exact h.size) h.defers (fun D x' hD bk' hb' => ?_) (fun D M u v bk' hD hM hb1 hb2 => ?_) (fun hk t => ?_) (fun hk D z hD => ?_) ⟨fun t M hM => ?_, fun M z D hM hD => ?_⟩ (fun L hL hl => ?_)
  · obtain ⟨z1, h1⟩ := hin hD
    exact .inr ⟨D, z1, h1, hb'⟩
  · obtain ⟨z1, h1⟩ := hin hD
    obtain ⟨z2, h2⟩ := hin hM
    exact h.inj D M z1 z2 bk' h1 h2 hb1 hb2
  · rw [setN_slot]; exact (h.slots t).keep hk
  · rcases cs hD with ⟨rfl, rfl⟩ | ⟨hne, z1, h1, h2⟩
    · exact hok hk
    · refine BlkOk.same ?_ h2
      exact (h.blks D z1 h1).keep hk rfl (fun _ _ => rfl) (fun _ _ _ _ _ _ _ _ => rfl) (fun b2 hb2 => hb b2 (fun e => hne (h.inj D N z1 y0 bk h1 hN (e ▸ hb2) hbk)))
  · rw [setN_slot] at hM; exact lv (h.wf.slot t M hM) (hk1 t M hM)
  · rcases cs hM with ⟨rfl, rfl⟩ | ⟨_, z1, h1, h2⟩
    · exact lv (hx D hD).1 (hx D hD).2
    · exact lv (h.wf.blk M z1 D h1 (h2.has hD)) (hk2 M z1 D h1 (h2.has hD))
  · obtain ⟨z, hz⟩ := hl
    obtain ⟨z1, h1⟩ := hin hz
    exact h.hd L hL ⟨z1, h1⟩

/-! ### slices given to cells -/
theorem mv_parts {N : Nm} {e : TypeId} {c : Ct} {i j R : Nat} {y : Blk} (hN : s.at N (.row e c)) (hR : s.rblk R = some y) (hne : N.r ≠ R) :
    (s.mv N i j R).at N (.row e ((c.kill (atR R)).put i j (y.kill (atR R)).asOwn)) ∧ ∀ R', R' ≠ R → R' ≠ N.r → (s.mv N i j R).rblk R' = (s.rblk R').map (Blk.kill (atR R)) := by
  unfold St.mv
  rw [St.at_blk hN, hR]
  simp only
  have hN1 : ((s.kill (atR R)).setB R none).at N (.row e (c.kill (atR R))) := at_setNone.2 ⟨hne, of_kill.2 ⟨_, hN, rfl⟩⟩
  refine ⟨setN_at hN1 (fun _ => rfl), fun R' h1 h2 => ?_⟩
  have : ∀ (t : St) (y : Blk), (t.setN N y).rblk R' = t.rblk R' := fun t y => by
    unfold St.setN
    split
    · rw [St.rblk_setB, if_neg (Ne.symm h2)]
    · rfl
  rw [this, St.rblk_setB, if_neg (Ne.symm h1), rblk_kill]
theorem nest_kill {Q : Nm → Bool} (y : Blk) : (y.kill Q).nest = y.nest := by
  cases y with
  | row e c => cases c <;> rfl
  | _ => rfl
theorem Sim.mvs {N : Nm} {k : Nat} : ∀ (l : List (Nat × Nat)) {s : St} {γ : Nm → Value} {e : TypeId} {c : Ct}, Sim E s act w γ → s.at N (.row e c) → k < c.len → mvOk l = true →
    (∀ p ∈ l, p.1 < c.st ∧ c.cell k p.1 = .os (rt p.2) ∧ p.2 ≠ N.r ∧ ∃ y, s.rblk p.2 = some y ∧ y.nest = true) → ∃ γ', Sim E (s.mvs N k l) act w γ'
  | [], s, γ, e, c, h, hN, hk, ho, hl => ⟨γ, h⟩
  | p :: l, s, γ, e, c, h, hN, hk, ho, hl => by
    obtain ⟨h1, h2, h3, y, h4, h5⟩ := hl p (by simp)
    simp only [mvOk, Bool.and_eq_true] at ho
    obtain ⟨γ', h6⟩ := h.mv hN hk h1 h2 h4 h5 (Ne.symm h3)
    obtain ⟨h7, h8⟩ := mv_parts (i := k) (j := p.1) hN h4 (Ne.symm h3)
    refine Sim.mvs l h6 h7 (by show k < (c.kill (atR p.2)).len; rw [Ct.kill_len]; exact hk) ho.2 (fun q hq => ?_)
    obtain ⟨g1, g2, g3, z, g4, g5⟩ := hl q (by simp [hq])
    have h9 := (List.all_eq_true.1 ho.1) q hq
    simp only [Bool.and_eq_true, Bool.not_eq_true'] at h9
    have ne1 : q.1 ≠ p.1 := fun e => by rw [e, Nat.beq_refl] at h9; cases h9.1
    have ne2 : q.2 ≠ p.2 := fun e => by rw [e, Nat.beq_refl] at h9; cases h9.2
    refine ⟨by show q.1 < (c.kill (atR p.2)).st; rw [Ct.kill_st]; exact g1, ?_, g3, z.kill (atR p.2), by rw [h8 q.2 ne2 g3, g4]; rfl, by rw [nest_kill]; exact g5⟩
    rw [put_ne _ _ (fun e => ne1 e.2), Ct.kill_cell, g2]
    have : atR p.2 (rt q.2) = false := beq_ne ne2
    simp [AV.kill, this]

theorem mvOf1_spec {N : Nm} {a : AV} {j : Nat} {p : Nat × Nat} (hp : p ∈ mvOf1 N j a s) : p.1 = j ∧ a = .os (rt p.2) ∧ p.2 ≠ N.r ∧ low ≤ p.2 ∧ ∃ y, s.rblk p.2 = some y ∧ y.nest = true := by
  unfold mvOf1 at hp
  split at hp
  · rename_i M
    split at hp
    · rename_i hM
      cases hb : (Nat.ble low M.r && !Nat.beq M.r N.r && (match s.rblk M.r with | some y => y.nest | none => false)) with
      | false => rw [hb] at hp; cases hp
      | true =>
        rw [hb] at hp
        simp only [cond_true, List.mem_singleton] at hp
        simp only [Bool.and_eq_true, Bool.not_eq_true'] at hb
        subst hp
        refine ⟨rfl, by obtain ⟨r, q⟩ := M; simp only at hM; rw [hM], fun e => ?_, Nat.le_of_ble_eq_true hb.1.1, ?_⟩
        · have := hb.1.2; rw [show M.r = N.r from e, Nat.beq_refl] at this; cases this
        · cases hr : s.rblk M.r with
          | none => rw [hr] at hb; cases hb.2
          | some y => rw [hr] at hb; exact ⟨y, rfl, hb.2⟩
    · cases hp
  · cases hp
theorem mvOf_spec {N : Nm} : ∀ {x : AV} {j : Nat} {p : Nat × Nat}, p ∈ mvOf s N j x → j ≤ p.1 ∧ p.1 < j + x.len ∧ x.nth (p.1 - j) = .os (rt p.2) ∧ p.2 ≠ N.r ∧ low ≤ p.2 ∧ ∃ y, s.rblk p.2 = some y ∧ y.nest = true := by
  intro x
  induction x with
  | cons a l iha ihl =>
    intro j p hp
    unfold mvOf at hp
    rcases List.mem_append.1 hp with hp | hp
    · obtain ⟨h1, h2, h3⟩ := mvOf1_spec hp
      exact ⟨by omega, by simp only [AV.len]; omega, by rw [h1, Nat.sub_self]; exact h2, h3⟩
    · obtain ⟨h1, h2, h3, h4⟩ := ihl hp
      refine ⟨by omega, by simp only [AV.len]; omega, ?_, h4⟩
      rw [show p.1 - j = (p.1 - (j + 1)) + 1 by omega]; exact h3
  | _ =>
    intro j p hp
    unfold mvOf at hp
    obtain ⟨h1, h2, h3⟩ := mvOf1_spec hp
    first
      | (cases h2; done)
      | exact ⟨by omega, by simp only [AV.len]; omega, by rw [h1, Nat.sub_self]; exact h2, h3⟩
end
end Go.Proofs.YtaopjdeigpiejaaDoor
namespace Go.Proofs.YtaopjdeigpiejaaDoor
open Go.RowKit Go.MapKept
set_option linter.unusedVariables false

section
variable {P : Program} {E : Ent0} {w w' : World} {s : St} {act : Act} {γ : Nm → Value}

theorem nth_kill {Q : Nm → Bool} : ∀ {l : AV} {j : Nat}, (l.kill Q).nth j = (l.nth j).kill Q := by
  have one : ∀ {a : AV} {j : Nat}, (∀ x l, a ≠ .cons x l) → a ≠ .nil → (∀ x l, a.kill Q ≠ .cons x l) → a.kill Q ≠ .nil → (a.kill Q).nth j = (a.nth j).kill Q := by
    intro a j h1 h2 h3 h4
    cases j with
    | zero =>
      have e1 : (a.kill Q).nth 0 = a.kill Q := by generalize a.kill Q = b at h3 h4; cases b <;> first | rfl | exact absurd rfl (h3 _ _) | exact absurd rfl h4
      have e2 : a.nth 0 = a := by cases a <;> first | rfl | exact absurd rfl (h1 _ _) | exact absurd rfl h2
      rw [e1, e2]
    | succ j =>
      have e1 : (a.kill Q).nth (j + 1) = .top := by generalize a.kill Q = b at h3 h4; cases b <;> first | rfl | exact absurd rfl (h3 _ _)
      have e2 : a.nth (j + 1) = .top := by cases a <;> first | rfl | exact absurd rfl (h1 _ _)
      rw [e1, e2]; rfl
  intro l
  induction l with
  | cons a l iha ihl =>
    intro j
    cases j with
    | zero => rfl
    | succ j => exact ihl
  | nil => intro j; rfl
  | op N j0 => intro j; exact one (fun _ _ h => by cases h) (fun h => by cases h) (fun _ _ h => by unfold AV.kill at h; cases hq : Q N <;> (rw [hq] at h; cases h)) (fun h => by unfold AV.kill at h; cases hq : Q N <;> (rw [hq] at h; cases h))
  | om N => intro j; exact one (fun _ _ h => by cases h) (fun h => by cases h) (fun _ _ h => by unfold AV.kill at h; cases hq : Q N <;> (rw [hq] at h; cases h)) (fun h => by unfold AV.kill at h; cases hq : Q N <;> (rw [hq] at h; cases h))
  | os N => intro j; exact one (fun _ _ h => by cases h) (fun h => by cases h) (fun _ _ h => by unfold AV.kill at h; cases hq : Q N <;> (rw [hq] at h; cases h)) (fun h => by unfold AV.kill at h; cases hq : Q N <;> (rw [hq] at h; cases h))
  | oe N st k j0 => intro j; exact one (fun _ _ h => by cases h) (fun h => by cases h) (fun _ _ h => by unfold AV.kill at h; cases hq : Q N <;> (rw [hq] at h; cases h)) (fun h => by unfold AV.kill at h; cases hq : Q N <;> (rw [hq] at h; cases h))
  | _ => intro j; exact one (fun _ _ h => by cases h) (fun h => by cases h) (fun _ _ h => by cases h) (fun h => by cases h)
theorem len_kill {Q : Nm → Bool} : ∀ {l : AV}, (l.kill Q).len = l.len := by
  intro l
  induction l with
  | cons a l iha ihl => simp only [AV.kill, AV.len, ihl]
  | op N j => unfold AV.kill; cases Q N <;> rfl
  | om N => unfold AV.kill; cases Q N <;> rfl
  | os N => unfold AV.kill; cases Q N <;> rfl
  | oe N st k j => unfold AV.kill; cases Q N <;> rfl
  | _ => rfl
theorem box_sub {l : AV} {r : List (Nat × Nat)} {z : Blk} (hr : r ≠ []) (h : (Blk.box l).At r z) : False := by
  cases r with
  | nil => exact hr rfl
  | cons q r => obtain ⟨i, j⟩ := q; obtain ⟨e, c, y, he, _⟩ := h; cases he
theorem mp_sub {t : TypeId} {m : Mc} {r : List (Nat × Nat)} {z : Blk} (hr : r ≠ []) (h : (Blk.mp t m).At r z) : False := by
  cases r with
  | nil => exact hr rfl
  | cons q r => obtain ⟨i, j⟩ := q; obtain ⟨e, c, y, he, _⟩ := h; cases he
theorem ownCells_false {c : Ct} {k : Nat} : ∀ {n j : Nat}, ownCells c k j n = false → ∀ j', j ≤ j' → j' < j + n → (c.cell k j').sub = none
  | 0, j, _, j', h1, h2 => by omega
  | n + 1, j, h, j', h1, h2 => by
    unfold ownCells at h
    simp only [Bool.or_eq_false_iff] at h
    by_cases e : j' = j
    · subst e
      cases hs : (c.cell k j').sub with
      | none => rfl
      | some z => rw [hs] at h; cases h.1
    · exact ownCells_false h.2 j' (by omega) (by omega)
theorem kids_quiet (s : St) (R : Nat) : (∀ t M, ((s.kill (kids R)).slot t).has M → M.r = R → M.p = []) ∧ (∀ D z M, (s.kill (kids R)).at D z → z.has M → M.r = R → M.p = []) :=
  ⟨fun t M hM e => by rw [slot_kill] at hM; exact kids_not (has_kill hM).2 e, fun D z M hD hM e => by obtain ⟨y, _, rfl⟩ := of_kill.1 hD; exact kids_not (hasB_kill hM).2 e⟩

theorem set_nest {e : TypeId} {c c' : Ct} {k j : Nat} {m : AV} (h : c.set k j m = some c') (hn : (Blk.row e c).nest = true) : (Blk.row e c').nest = true := by
  cases c with
  | ints q xs =>
    cases m with
    | int q' n =>
      simp only [Ct.set] at h
      cases hd : decide (q' = q) with
      | false => rw [hd] at h; cases h
      | true => rw [hd] at h; cases h; rfl
    | _ => cases h
  | bools xs => cases hn
  | tab n st cell => cases h; rfl
theorem setN_rblk {N : Nm} {y : Blk} {R : Nat} (h : R ≠ N.r) : (s.setN N y).rblk R = s.rblk R := by
  unfold St.setN
  split
  · rw [St.rblk_setB, if_neg (Ne.symm h)]
  · rfl
theorem kid_nest {N : Nm} {y : Blk} (hN : s.at N y) (hp : N.p ≠ []) : y.nest = true := by
  obtain ⟨x0, g1, g2⟩ := hN
  rcases List.eq_nil_or_concat N.p with h6 | ⟨l', q, h6⟩
  · exact absurd h6 hp
  · rw [h6, List.concat_eq_append] at g2
    obtain ⟨z, g3, g4⟩ := at_append.1 g2
    obtain ⟨qi, qj⟩ := q
    obtain ⟨e4, c4, y4, g5, g6, g7, g8, g9⟩ := g4
    cases g9
    exact nest_of_sub g8
/-- A store into a row's element. -/
theorem store_row (h : Sim E s act w γ) {t : Nat} {i : TyI} (hi : tyChk P t i = true) {N : Nm} {e : TypeId} {c c' : Ct} (hN : s.at N (.row e c)) {k j : Nat} {m : AV} {vx : Value} (hc : Reps w (E.ow (s.own γ)) γ m .o vx.cells.toList) (hc1 : ∀ u ∈ vx.cells.toList, u.oneCell' = true) (hlm : s.live m)
    (hset : c.set k j m = some c') (hk : k < c.len) (hj : j + i.size ≤ c.st) (hml : m.len = i.size) (h0 : 0 < i.size)
    (hown : (∀ j', j ≤ j' → j' < j + i.size → (c.cell k j').sub = none) ∨ ((∀ t M, (s.slot t).has M → M.r = N.r → M.p = []) ∧ (∀ D z M, s.at D z → z.has M → M.r = N.r → M.p = []) ∧ ∀ M, m.has M → M.r = N.r → M.p = [])) :
    ∃ w', (Instr.storeAt t (ptrAt (γ N) (k * c.st + j)) vx).run P w = .ok () w' ∧ Sim E (s.setN N (.row e c')) act w' γ ∧ SetOk c c' k j m := by
  have hsz : vx.cells.size = i.size := by rw [← hml, ← hc.len]; simp
  have hS := set_spec hset hk (by omega) (by omega)
  obtain ⟨s1, s2, s3, s4, s5⟩ := hS
  have msub : ∀ i', i' < m.len → (m.nth i').sub = none := fun i' hi' => by
    obtain ⟨u, _, h5⟩ := hc.nth hi'
    exact sub_cell_none h5
  rcases h.blks N _ hN with ⟨h0', _⟩ | ⟨bk, o, cap, us, e1, hpos, h1, h2, h3, h4⟩
  · omega
  · have hbk : blkOf (γ N) = some bk := by rw [e1, blkOf_slice hpos]
    have hp' : ptrAt (γ N) (k * c.st + j) = .pointer (some ⟨bk, o + (k * c.st + j), none⟩) := by rw [e1]; rfl
    have hkc : k * c.st + c.st ≤ cap * c.st := by
      have := Nat.mul_le_mul_right c.st (show k + 1 ≤ cap by omega)
      rwa [Nat.succ_mul] at this
    have hr := run_storeAt (P := P) hi (o := o + (k * c.st + j)) h2 hsz (by omega) hc1
    have hlen : (us.take (o + (k * c.st + j)) ++ vx.cells.toList ++ us.drop (o + (k * c.st + j) + i.size)).length = us.length := by
      simp [hsz]; omega
    have hnestN : N.p ≠ [] → (Blk.row e c').nest = true := fun hp => set_nest hset (kid_nest hN hp)
    have hok : ∀ {own' : Bool → Nat → Prop}, Keeps w (w.setRow bk (us.take (o + (k * c.st + j)) ++ vx.cells.toList ++ us.drop (o + (k * c.st + j) + i.size)).toArray) (E.ow (s.own γ)) own' →
        BlkOk (w.setRow bk (us.take (o + (k * c.st + j)) ++ vx.cells.toList ++ us.drop (o + (k * c.st + j) + i.size)).toArray) own' γ N (.row e c') := by
      intro own' hkp
      refine .inr ⟨bk, o, cap, _, by rw [s1]; exact e1, hpos, by rw [s1]; exact h1, setRow_heap w bk _ _ e _ h2, by rw [s2, hlen]; exact h3, fun k' j' hk' hj' => ?_⟩
      rw [s1] at hk'
      rw [s2] at hj' ⊢
      by_cases hin : k' = k ∧ j ≤ j' ∧ j' < j + i.size
      · obtain ⟨rfl, hj1, hj2⟩ := hin
        obtain ⟨u, h5, h6⟩ := hc.nth (j := j' - j) (by omega)
        refine ⟨u, ?_, hc1 u (List.mem_of_getElem? h5), ?_⟩
        · rw [List.getElem?_append_left (by simp [hsz]; omega), List.getElem?_append_right (by simp; omega)]
          rw [← h5]
          congr 1
          simp; omega
        · have := (s4 (j' - j) (by omega)).2.2 _ _ _ _ _ (h6.keep hkp)
          rw [show j + (j' - j) = j' by omega] at this
          exact .of this
      · obtain ⟨u, h5, h5o, h6⟩ := h4 k' j' hk' hj'
        have hout : o + (k' * c.st + j') < o + (k * c.st + j) ∨ o + (k * c.st + j) + i.size ≤ o + (k' * c.st + j') := by
          rcases Nat.lt_trichotomy k' k with hlt | heq | hgt
          · have := Nat.mul_le_mul_right c.st (show k' + 1 ≤ k by omega)
            rw [Nat.succ_mul] at this
            left; omega
          · subst heq
            by_cases hjj : j' < j
            · left; omega
            · right; have : ¬ j' < j + i.size := fun h => hin ⟨rfl, by omega, h⟩
              omega
          · have := Nat.mul_le_mul_right c.st (show k + 1 ≤ k' by omega)
            rw [Nat.succ_mul] at this
            right; omega
        refine ⟨u, ?_, h5o, ?_⟩
        · rcases hout with hlt | hge
          · rw [List.getElem?_append_left (by simp; omega), List.getElem?_append_left (by simp; omega), List.getElem?_take, if_pos hlt]
            exact h5
          · rw [List.getElem?_append_right (by simp [hsz]; omega), List.getElem?_drop, ← h5]
            congr 1
            simp [hsz]; omega
        · rw [s3 k' j' hk' hj' (by rw [hml]; exact hin)]
          exact h6.keep hkp (fun _ _ => rfl) (fun _ => rfl)
    have hsub1 : ∀ r z, r ≠ [] → (Blk.row e c').At r z → (Blk.row e c).At r z := by
      intro r z hr hz
      cases r with
      | nil => exact absurd rfl hr
      | cons q r =>
        obtain ⟨i', j'⟩ := q
        obtain ⟨e2, c2, y, he, g1, g2, g3, g4⟩ := hz
        cases he
        rw [s1] at g1
        rw [s2] at g2
        by_cases hin : i' = k ∧ j ≤ j' ∧ j' < j + m.len
        · obtain ⟨rfl, hj1, hj2⟩ := hin
          have := (s4 (j' - j) (by omega)).1 (msub _ (by omega))
          rw [show j + (j' - j) = j' by omega, g3] at this
          cases this
        · rw [s3 i' j' g1 g2 hin] at g3
          exact ⟨_, _, y, rfl, g1, g2, g3, g4⟩
    refine ⟨w.setRow bk (us.take (o + (k * c.st + j)) ++ vx.cells.toList ++ us.drop (o + (k * c.st + j) + i.size)).toArray, by rw [hp']; exact hr, ?_, ⟨s1, s2, s3, s4, s5⟩⟩
    have hx : ∀ M, (Blk.row e c').has M → s.lv M ∧ (m.has M ∨ (Blk.row e c).has M) := fun M ⟨k', j', hk', hj', hM⟩ => by
      rw [s1] at hk'
      rw [s2] at hj'
      rcases s5 k' j' M hM with hM | hM
      · exact ⟨hlm M hM, .inl hM⟩
      · exact ⟨h.wf.blk N _ M hN ⟨k', j', hk', hj', hM⟩, .inr ⟨k', j', hk', hj', hM⟩⟩
    rcases hown with hno | ⟨q1, q2, q3⟩
    · refine h.write hN hbk hnestN rfl rfl rfl (setRow_size _ _ _) (fun k hk => setRow_other w bk k _ hk) (fun M hM => (hx M hM).1) hsub1 (fun r z hr hz => ?_) hok
      cases r with
      | nil => exact absurd rfl hr
      | cons q r =>
        obtain ⟨i', j'⟩ := q
        obtain ⟨e2, c2, y, he, g1, g2, g3, g4⟩ := hz
        cases he
        by_cases hin : i' = k ∧ j ≤ j' ∧ j' < j + m.len
        · obtain ⟨rfl, hj1, hj2⟩ := hin
          rw [hno j' hj1 (by omega)] at g3; cases g3
        · exact ⟨_, c', y, rfl, by rw [s1]; exact g1, by rw [s2]; exact g2, by rw [s3 i' j' g1 g2 hin]; exact g3, g4⟩
    · exact h.writeD hN hbk hnestN rfl rfl rfl (setRow_size _ _ _) (fun k hk => setRow_other w bk k _ hk) (fun M hM => ⟨(hx M hM).1, fun e2 => (hx M hM).2.elim (fun h5 => q3 M h5 e2) (fun h5 => q2 N _ M hN h5 e2)⟩) hsub1 q1 q2 hok

theorem store_sound (h : Sim E s act w γ) {t : Nat} {i : TyI} (hi : tyChk P t i = true) {a x : AV} {va vx : Value} (ha : Reps w (E.ow (s.own γ)) γ a .o [va]) (hla : s.live a) (hx : Reps w (E.ow (s.own γ)) γ x .o [vx]) (hlx : s.live x) {p : Prop} {s' : St}
    (hy : stoA s i.size a x = .ok p s') (hp : p) (h0 : 0 < i.size) : ∃ w' γ', (Instr.storeAt t va vx).run P w = .ok () w' ∧ Sim E s' act w' γ' := by
  unfold stoA at hy
  cases a with
  | op N j =>
    obtain ⟨_, e, _⟩ := ha
    cases e
    simp only at hy
    cases hNb : s.blk N with
    | none => rw [hNb] at hy; cases hy
    | some y =>
      rw [hNb] at hy
      have hN := St.lv_at (hla N rfl) hNb
      cases y with
      | row e c => cases hy
      | mp t m => cases hy
      | box l =>
        simp only at hy
        cases hb : (x.flat && Nat.beq x.cells.len i.size && Nat.ble (j + i.size) l.len) with
        | false => rw [hb] at hy; cases hy
        | true =>
          rw [hb] at hy
          cases hy
          simp only [Bool.and_eq_true] at hb
          obtain ⟨⟨hf, hz⟩, hle⟩ := hb
          have hz' := Nat.eq_of_beq_eq_true hz
          have hle' := Nat.le_of_ble_eq_true hle
          obtain ⟨hc, hc1⟩ := hx.cells hf (live_one h hlx)
          obtain ⟨bk, us, ty, e, h1, ho, h2⟩ := h.blks N _ hN
          have hul := h2.len
          have hsz : vx.cells.size = i.size := by rw [← hz', ← hc.len]; simp
          have hbk : blkOf (γ N) = some bk := by rw [e]; rfl
          have hp' : ptrAt (γ N) j = .pointer (some ⟨bk, 0 + j, none⟩) := by rw [e]; rfl
          have hr := run_storeAt (P := P) hi (o := 0 + j) h1 hsz (by omega) hc1
          simp only [Nat.zero_add] at hr hp'
          have hnp : N.p ≠ [] → (Blk.box (l.splice j x.cells)).nest = true := fun hp => by cases kid_nest hN hp
          refine ⟨w.setRow bk (us.take j ++ vx.cells.toList ++ us.drop (j + i.size)).toArray, γ, by rw [hp']; exact hr, h.write hN hbk hnp rfl rfl rfl (setRow_size _ _ _) (fun k hk => setRow_other w bk k _ hk) (fun M hM => ?_) (fun r z hr hz => (box_sub hr hz).elim) (fun r z hr hz => (box_sub hr hz).elim) (fun hk => ?_)⟩
          · rcases has_splice hM with hM | hM
            · exact h.wf.blk N _ M hN hM
            · exact hlx M (has_cells hM)
          · refine ⟨bk, _, ty, e, setRow_heap w bk _ _ ty _ h1, fun u hu => ?_, ?_⟩
            · rcases List.mem_append.1 hu with hu | hu
              · rcases List.mem_append.1 hu with hu | hu
                · exact ho u (List.mem_of_mem_take hu)
                · exact hc1 u hu
              · exact ho u (List.mem_of_mem_drop hu)
            · have := (Reps.splice j h2 hc).keep hk
              simpa [hsz] using this
  | oe N st k j =>
    obtain ⟨_, e, _⟩ := ha
    cases e
    simp only at hy
    cases hNb : s.blk N with
    | none => rw [hNb] at hy; cases hy
    | some y =>
      rw [hNb] at hy
      have hN := St.lv_at (hla N rfl) hNb
      cases y with
      | box l => cases hy
      | mp t m => cases hy
      | row e c =>
        simp only at hy
        cases hb : (x.flat && Nat.beq x.cells.len i.size && Nat.ble (j + i.size) st && Nat.beq c.st st && mvOk (mvOf s N j x.cells)) with
        | false => rw [hb] at hy; cases hy
        | true =>
          rw [hb] at hy
          simp only [cond_true] at hy
          simp only [Bool.and_eq_true] at hb
          obtain ⟨⟨⟨⟨hf, hz⟩, hle⟩, hst⟩, hmv⟩ := hb
          have hz' := Nat.eq_of_beq_eq_true hz
          have hle' := Nat.le_of_ble_eq_true hle
          obtain rfl := Nat.eq_of_beq_eq_true hst
          obtain ⟨hc, hc1⟩ := hx.cells hf (live_one h hlx)
          cases how : ownCells c k j i.size with
          | false =>
            rw [how] at hy
            simp only [cond_false] at hy
            cases hset : c.set k j x.cells with
            | none => rw [hset] at hy; cases hy
            | some c' =>
              rw [hset] at hy
              cases hy
              obtain ⟨w', h1, h2, s1, s2, s3, s4, s5⟩ := store_row (P := P) h hi hN hc hc1 (fun M hM => hlx M (has_cells hM)) hset hp hle' hz' h0 (.inl (ownCells_false how))
              have hN' : (s.setN N (.row e c')).at N (.row e c') := setN_at hN (fun hnp => set_nest hset (kid_nest hN hnp))
              obtain ⟨γ', h3⟩ := h2.mvs (mvOf s N j x.cells) hN' (by rw [s1]; exact hp) hmv (fun q hq => by
                obtain ⟨g1, g2, g3, g4, g5, y, g6, g7⟩ := mvOf_spec hq
                refine ⟨by rw [s2]; omega, ?_, g4, y, by rw [setN_rblk g4]; exact g6, g7⟩
                have := (s4 (q.1 - j) (by omega)).2.1 _ g3
                rwa [show j + (q.1 - j) = q.1 by omega] at this)
              exact ⟨w', γ', h1, h3⟩
          | true =>
            rw [how] at hy
            simp only [cond_true] at hy
            cases hset : (c.kill (kids N.r)).set k j (x.cells.kill (kids N.r)) with
            | none => rw [hset] at hy; cases hy
            | some c' =>
              rw [hset] at hy
              cases hy
              have hk := h.kill (kids N.r)
              have hN1 : (s.kill (kids N.r)).at N (.row e (c.kill (kids N.r))) := of_kill.2 ⟨_, hN, rfl⟩
              obtain ⟨q1, q2⟩ := kids_quiet s N.r
              have hc2 : Reps w (E.ow ((s.kill (kids N.r)).own γ)) γ (x.cells.kill (kids N.r)) .o vx.cells.toList := by rw [own_kill]; exact hc.kill
              obtain ⟨w', h1, h2, s1, s2, s3, s4, s5⟩ := store_row (P := P) hk hi hN1 (k := k) (j := j) hc2 hc1 (fun M hM => lv_kill.2 (hlx M (has_cells (has_kill hM).1))) hset (by rw [Ct.kill_len]; exact hp) (by rw [Ct.kill_st]; exact hle') (by rw [len_kill]; exact hz') h0
                (.inr ⟨q1, q2, fun M hM e1 => kids_not (has_kill hM).2 e1⟩)
              rw [Ct.kill_st] at h1
              have hN' : ((s.kill (kids N.r)).setN N (.row e c')).at N (.row e c') := setN_at hN1 (fun hnp => set_nest hset (kid_nest hN1 hnp))
              obtain ⟨γ', h3⟩ := h2.mvs (mvOf s N j x.cells) hN' (by rw [s1, Ct.kill_len]; exact hp) hmv (fun q hq => by
                obtain ⟨g1, g2, g3, g4, g5, y, g6, g7⟩ := mvOf_spec hq
                refine ⟨by rw [s2, Ct.kill_st]; omega, ?_, g4, y.kill (kids N.r), by rw [setN_rblk g4, rblk_kill, g6]; rfl, by rw [nest_kill]; exact g7⟩
                have := (s4 (q.1 - j) (by rw [len_kill]; omega)).2.1 (rt q.2) (by rw [nth_kill, g3]; simp [AV.kill, kids])
                rwa [show j + (q.1 - j) = q.1 by omega] at this)
              exact ⟨w', γ', h1, h3⟩
  | _ => cases hy
end
end Go.Proofs.YtaopjdeigpiejaaDoor
namespace Go.Proofs.YtaopjdeigpiejaaDoor
open Go.RowKit Go.MapKept
set_option linter.unusedVariables false

section
variable {P : Program} {E : Ent0} {w w' : World} {s : St} {act : Act} {γ : Nm → Value}

theorem mfind_nokey {α : Type} {x : Int} : ∀ {l : List (Int × α)}, mfind l x = none → ∀ q ∈ l, q.1 ≠ x := by
  intro l
  induction l with
  | nil => intro _ q h; cases h
  | cons p l ih =>
    intro h q hq
    unfold mfind at h
    split at h
    · cases h
    · rename_i hne
      rcases List.mem_cons.1 hq with rfl | hq
      · exact fun e => hne e.symm
      · exact ih h q hq
theorem run_mup {t k e r : Nat} {es : Array MapEntry} {clock : Nat} {x : Int} {v : Value} (ht : P.underlying t = some (.map k e)) (hk : P.underlying k = some (.int .i64)) (hb : w.heap[r]? = some (.map es clock)) (hst : Stamped es clock)
    {α : Type} (f : α → Value) {l : List (Int × α)} (hl : es.toList.map (fun e => (e.key, e.val)) = l.map (fun p => (Value.int .i64 p.1, f p.2))) {a : α} (hv : v = f a) :
    ∃ es' clock', (Instr.mapUpdate t (.map (some r)) (.int .i64 x) v).run P w = .ok () { w with heap := w.heap.setIfInBounds r (.map es' clock') } ∧ es'.toList.map (fun e => (e.key, e.val)) = (mset l x a).map (fun p => (Value.int .i64 p.1, f p.2)) ∧ Stamped es' clock' := by
  have h1 := Go.MapKept.run_checkKey (P := P) (w := w) (k := .int .i64 x) hk rfl false 9999
  rcases find_map f x es.toList l 0 hl with ⟨g1, g2, g3⟩ | ⟨j, e', a', _, g2, g4, g5, g3⟩
  · refine ⟨es.push { key := .int .i64 x, val := v, born := clock }, clock + 1, ?_, ?_, stamped_push hst (fun y hy e => ?_)⟩
    · simp [Instr.mapUpdate, run_underlying ht, Go.MapKept.run_getObj_map hb, h1, Go.MapKept.run_findKey hk g2, Go.MapKept.run_setObj_map _ hb]
    · rw [g3 a]; simp [hl, hv]
    · have hm : (y.key, y.val) ∈ es.toList.map (fun e => (e.key, e.val)) := List.mem_map.2 ⟨y, hy, rfl⟩
      rw [hl] at hm
      obtain ⟨q, hq, e2⟩ := List.mem_map.1 hm
      have e3 : q.1 = x := by
        have := (Prod.mk.inj e2).1
        rw [e] at this
        simpa using this
      exact mfind_nokey g1 q hq e3
  · have hj : es[j]? = some e' := by simpa using g4
    have h2 := Go.MapKept.run_keyThatStays (P := P) (w := w) (d := .int .i64) (k := .int .i64 x) rfl
    refine ⟨es.modify j fun e => { e with key := .int .i64 x, val := v }, clock, ?_, ?_, stamped_modify hst _ _ (fun _ _ => rfl) (fun e0 _ h0 => ?_)⟩
    · simp [Instr.mapUpdate, run_underlying ht, Go.MapKept.run_getObj_map hb, h1, Go.MapKept.run_findKey hk g2, hj, g5, h2, Go.MapKept.run_setObj_map _ hb]
    · rw [g3 a, List.map_set, ← hl]
      apply List.ext_getElem?
      intro m
      rw [List.getElem?_set]
      by_cases hm : j = m
      · subst hm
        have hlt : j < es.size := (Array.getElem?_eq_some_iff.1 hj).1
        simp [hlt, hv]
      · simp [hm]
    · rw [hj] at h0
      cases h0
      exact g5.symm

theorem mup_sound (h : Sim E s act w γ) {t k e : Nat} {ti ki : TyI} (ht : tyChk P t ti = true) (hm : ti.mp = some (k, e)) (hk : tyChk P k ki = true) (hki : ki.ik = some .i64) {a x y : AV} {va vx vy : Value} (ha : Reps w (E.ow (s.own γ)) γ a .o [va]) (hla : s.live a) (hx : Reps w (E.ow (s.own γ)) γ x .o [vx])
    (hy : Reps w (E.ow (s.own γ)) γ y .o [vy]) {p : Prop} {s' : St} (hr : mupA s t a x y = .ok p s') : ∃ w', (Instr.mapUpdate t va vx vy).run P w = .ok () w' ∧ Sim E s' act w' γ := by
  unfold mupA at hr
  split at hr
  · rename_i N n
    obtain ⟨_, e1⟩ := ha
    cases e1
    cases hx
    split at hr
    · rename_i t' m hNb
      have hN := St.lv_at (hla N rfl) hNb
      obtain ⟨r, es, clock, h1, h2, h3, hst⟩ := h.blks _ _ hN
      cases hb : Nat.beq t' t with
      | false => rw [hb] at hr; cases hr
      | true =>
        rw [hb] at hr
        simp only [cond_true] at hr
        obtain rfl := Nat.eq_of_beq_eq_true hb
        have hu := tyChk_mp ht hm
        have huk := tyChk_ik hk hki
        have hbk : blkOf (γ N) = some r := by rw [h1]; rfl
        have fin : ∀ (es' : Array MapEntry) (clock' : Nat) (m' : Mc), es'.toList.map (fun e => (e.key, e.val)) = m'.entries ∧ Stamped es' clock' → Sim E (s.setN N (.mp t' m')) act { w with heap := w.heap.setIfInBounds r (.map es' clock') } γ := by
          intro es' clock' m' he
          obtain ⟨g1, g2⟩ := Go.MapKept.heap_set (o' := .map es' clock') h2
          refine h.write hN hbk (fun hp => by cases kid_nest hN hp) rfl rfl rfl (by simp) g2 (fun M hM => hM.elim) (fun r z hr hz => (mp_sub hr hz).elim) (fun r z hr hz => (mp_sub hr hz).elim) (fun _ => ?_)
          exact ⟨r, es', clock', h1, g1, he⟩
        split at hr
        · rename_i q l q' v
          cases hd : decide (q' = q) with
          | false => rw [hd] at hr; cases hr
          | true =>
            rw [hd] at hr
            cases hr
            obtain rfl := of_decide_eq_true hd
            cases hy
            obtain ⟨es', clock', g1, g2⟩ := run_mup (x := n) hu huk h2 hst (Value.int q') (l := l) (by rw [h3]; rfl) (a := v) rfl
            exact ⟨_, by rw [h1]; exact g1, fin es' clock' _ g2⟩
        · rename_i l v
          cases hr
          cases hy
          obtain ⟨es', clock', g1, g2⟩ := run_mup (x := n) hu huk h2 hst Value.bool (l := l) (by rw [h3]; rfl) (a := v) rfl
          exact ⟨_, by rw [h1]; exact g1, fin es' clock' _ g2⟩
        · rename_i l
          cases hr
          cases hy
          obtain ⟨es', clock', g1, g2⟩ := run_mup (x := n) hu huk h2 hst Value.bool (l := l) (by rw [h3]; rfl) (a := true) rfl
          exact ⟨_, by rw [h1]; exact g1, fin es' clock' _ g2⟩
        · rename_i l
          cases hr
          cases hy
          obtain ⟨es', clock', g1, g2⟩ := run_mup (x := n) hu huk h2 hst Value.bool (l := l) (by rw [h3]; rfl) (a := false) rfl
          exact ⟨_, by rw [h1]; exact g1, fin es' clock' _ g2⟩
        · cases hr
    · cases hr
  · cases hr

theorem lv_setB {L : Nat} {x : Blk} : (s.setB L (some x)).lv (rt L) := ⟨x, at_root.2 (by simp [St.rblk_setB])⟩
theorem trim_sound (h : Sim E s act w γ) {t : Nat} {i e : TyI} (hi : tyChk P t i = true) (he : tyChk P i.elem e = true) (hne : i.elem ≠ 0) (hsz : e.size = 1) {d : Nat} (hd : d < s.n) {x lo : Operand} {p : Prop} {s' : St} (hy : trimA s i.elem d (s.ev x) (s.ev lo) = .ok p s') (hp : p) :
    ∃ v γ', (Instr.sliceAt t (act.eval x) (some (act.eval lo)) none none).run P w = .ok v w ∧ Sim E s' (act.put (some d) v) w γ' := by
  have hu := tyChk_elem hi hne
  obtain ⟨inf, z, i1, i2, i3, i4, i5⟩ := tyChk_info he
  have hx := ev_sound h x
  have hlo := (ev_sound h lo).1
  unfold trimA at hy
  split at hy
  · rename_i N q m ex elo
    rw [ex] at hx
    rw [elo] at hlo
    obtain ⟨⟨_, ev⟩, hlx⟩ := hx
    have ev' : act.eval x = γ N := by simpa using ev
    have evl : act.eval lo = .int q m := by simpa [Reps] using hlo
    split at hy
    · rename_i e' k xs hNp hNb
      cases hb : (Nat.beq e' i.elem && Nat.ble low N.r) with
      | false => rw [hb] at hy; cases hy
      | true =>
        rw [hb] at hy
        cases hy
        simp only [Bool.and_eq_true] at hb
        have e1 := Nat.eq_of_beq_eq_true hb.1
        have hlow := Nat.le_of_ble_eq_true hb.2
        have hN := St.lv_at (hlx N rfl) hNb
        have eN : N = rt N.r := by obtain ⟨r, q⟩ := N; simp only at hNp; rw [hNp]
        obtain ⟨m0, rfl⟩ : ∃ m0 : Nat, m = (m0 : Int) := ⟨m.toNat, by omega⟩
        have hle : m0 ≤ xs.length := by have := hp.2; omega
        rw [Int.toNat_natCast]
        have key : ∀ (A : Option Addr) (cap : Nat), γ N = .slice A xs.length cap → xs.length ≤ cap → (Instr.sliceAt t (act.eval x) (some (act.eval lo)) none none).run P w = .ok (.slice (if cap = m0 then A else A.map (·.add m0)) (xs.length - m0) (cap - m0)) w := by
          intro A cap hA hcap
          have hb := run_bounds (P := P) (w := w) (len := xs.length) (cap := cap) (l := m0) (h := xs.length) (lo := some (m0 : Int)) (hi := none) (vl := some (.int q m0)) (vh := none) (.inr ⟨q, rfl⟩) ⟨q, rfl⟩ rfl rfl hle (Nat.le_refl _) hcap
          rw [ev', evl, hA]
          simp [Instr.sliceAt, Instr.slice, run_underlying hu, hb, sizeOf, typeInfo, i1, i2, hsz]
        have hk := h.kill (atR N.r)
        have hNk : (s.kill (atR N.r)).at N (.row e' (.ints k xs)) := of_kill.2 ⟨_, hN, rfl⟩
        obtain ⟨A, cap, hg, hcap, hcase⟩ : ∃ A cap, γ N = .slice A xs.length cap ∧ xs.length ≤ cap ∧ ((cap = 0) ∨ (0 < cap ∧ ∃ bk o us, A = some ⟨bk, o, none⟩ ∧ w.heap[bk]? = some (.cells (List.toArray us) e' (0, 0)) ∧ o + cap ≤ us.length ∧ ∀ k', k' < xs.length → ∃ u, us[o + k']? = some u ∧ u.oneCell' = true ∧ u = .int k (xs.getD k' 0))) := by
          rcases h.blks N _ hN with ⟨h0, A, e2⟩ | ⟨bk, o, cap, us, e2, hpos, hc, h2, h3, h4⟩
          · have h0' : xs.length = 0 := h0
            exact ⟨A, 0, by rw [e2, h0'], by omega, .inl rfl⟩
          · refine ⟨_, cap, e2, hc, .inr ⟨hpos, bk, o, us, rfl, h2, by simpa [Ct.st] using h3, fun k' hk' => ?_⟩⟩
            obtain ⟨u, h5, h6, h7⟩ := h4 k' 0 hk' (by exact Nat.one_pos)
            exact ⟨u, by simpa [Ct.st] using h5, h6, by simpa [Reps, Ct.cell, ci] using h7.rep rfl⟩
        have hr := key A cap hg hcap
        have hlen : (xs.drop m0).length = xs.length - m0 := by simp
        -- the new header
        have hS : Sim E ((s.kill (atR N.r)).setB N.r (some (.row i.elem (.ints k (xs.drop m0))))) act w (upd γ (rt N.r) (.slice (if cap = m0 then A else A.map (·.add m0)) (xs.length - m0) (cap - m0))) := by
          refine hk.replace hlow (quiet_kill s N.r) rfl rfl rfl (Nat.le_refl _) (fun _ _ _ => rfl) (fun bk hbk => ?_) (fun M ⟨k', j', _, _, hM⟩ => hM.elim) (fun p z hp hz => ?_) (fun hkp => ?_)
          · right
            refine ⟨⟨_, by rw [← eN]; exact hNk⟩, ?_⟩
            rw [← eN, hg]
            rcases hcase with h0 | ⟨hpos, bk', o, us, rfl, _⟩
            · rw [h0] at hbk
              rw [show (0 : Nat) - m0 = 0 by omega, blkOf_slice0] at hbk; cases hbk
            · by_cases hc : cap = m0
              · rw [hc, Nat.sub_self, blkOf_slice0] at hbk; cases hbk
              · rw [if_neg hc, Option.map_some, blkOf_slice (by omega)] at hbk
                rw [blkOf_slice hpos]
                rw [← hbk]
                simp [Addr.add]; split <;> rfl
          · cases p with
            | nil => exact absurd rfl hp
            | cons q p => obtain ⟨i', j'⟩ := q; obtain ⟨e3, c3, y3, he3, _, _, h6, _⟩ := hz; cases he3; cases h6
          · rcases hcase with h0 | ⟨hpos, bk', o, us, rfl, h2, h3, h4⟩
            · refine .inl ⟨by show (xs.drop m0).length = 0; rw [hlen]; omega, _, by rw [upd_at, show cap - m0 = 0 by omega, show xs.length - m0 = 0 by omega]⟩
            · by_cases hc : cap = m0
              · refine .inl ⟨by show (xs.drop m0).length = 0; rw [hlen]; omega, _, by rw [upd_at, show cap - m0 = 0 by omega, show xs.length - m0 = 0 by omega]⟩
              · refine .inr ⟨bk', o + m0, cap - m0, us, by rw [upd_at, if_neg hc, Option.map_some, add_at]; show _ = Value.slice _ (xs.drop m0).length _; rw [hlen], by omega, by show (xs.drop m0).length ≤ _; rw [hlen]; omega, by rw [← e1]; exact h2, by show o + m0 + (cap - m0) * 1 ≤ _; omega, fun k' j' hk' hj' => ?_⟩
                have hj0 : j' < 1 := hj'
                obtain rfl : j' = 0 := by omega
                have hk1 : k' < (xs.drop m0).length := hk'
                rw [hlen] at hk1
                obtain ⟨u, h5, h6, h7⟩ := h4 (m0 + k') (by omega)
                refine ⟨u, by show us[o + m0 + (k' * 1 + 0)]? = _; rw [← h5]; congr 1; omega, h6, .of ?_⟩
                show [u] = [.int k ((xs.drop m0).getD k' 0)]
                rw [h7]; simp
        exact ⟨_, _, hr, hS.put (by exact hd) ⟨rfl, by rw [upd_at]⟩ (fun M hM => (show rt N.r = M from hM) ▸ lv_setB)⟩
    · cases hy
  · cases hy
theorem cut_sound (h : Sim E s act w γ) {t : Nat} {i e : TyI} (hi : tyChk P t i = true) (he : tyChk P i.elem e = true) (hne : i.elem ≠ 0) {d : Nat} (hd : d < s.n) {x up : Operand} {p : Prop} {s' : St} (hy : cutA s i.elem d (s.ev x) (s.ev up) = .ok p s') (hp : p) :
    ∃ v γ', (Instr.sliceAt t (act.eval x) none (some (act.eval up)) none).run P w = .ok v w ∧ Sim E s' (act.put (some d) v) w γ' := by
  have hu := tyChk_elem hi hne
  obtain ⟨inf, z, i1, i2, i3, i4, i5⟩ := tyChk_info he
  have hx := ev_sound h x
  have hlo := (ev_sound h up).1
  unfold cutA at hy
  split at hy
  · rename_i N q m ex elo
    rw [ex] at hx
    rw [elo] at hlo
    obtain ⟨⟨_, ev⟩, hlx⟩ := hx
    have ev' : act.eval x = γ N := by simpa using ev
    have evl : act.eval up = .int q m := by simpa [Reps] using hlo
    split at hy
    · rename_i e' n st cell hNp hNb
      cases hb : (Nat.beq e' i.elem && Nat.ble low N.r) with
      | false => rw [hb] at hy; cases hy
      | true =>
        rw [hb] at hy
        cases hy
        simp only [Bool.and_eq_true] at hb
        have e1 := Nat.eq_of_beq_eq_true hb.1
        have hlow := Nat.le_of_ble_eq_true hb.2
        have hN := St.lv_at (hlx N rfl) hNb
        have eN : N = rt N.r := by obtain ⟨r, q⟩ := N; simp only at hNp; rw [hNp]
        obtain ⟨m0, rfl⟩ : ∃ m0 : Nat, m = (m0 : Int) := ⟨m.toNat, by omega⟩
        have hle : m0 ≤ n := by have := hp.2; omega
        rw [Int.toNat_natCast]
        have key : ∀ (A : Option Addr) (cap : Nat), γ N = .slice A n cap → n ≤ cap → (Instr.sliceAt t (act.eval x) none (some (act.eval up)) none).run P w = .ok (.slice (if cap = 0 then A else A.map (·.add (0 * e.size))) (m0 - 0) (cap - 0)) w := by
          intro A cap hA hcap
          have hb := run_bounds (P := P) (w := w) (len := n) (cap := cap) (l := 0) (h := m0) (lo := none) (hi := some (m0 : Int)) (vl := none) (vh := some (.int q m0)) (.inl rfl) ⟨q, rfl⟩ rfl rfl (Nat.zero_le _) hle hcap
          rw [ev', evl, hA]
          simp [Instr.sliceAt, Instr.slice, run_underlying hu, hb, sizeOf, typeInfo, i1, i2]
        have hk := h.kill (atR N.r)
        have hNk : (s.kill (atR N.r)).at N (.row e' (.tab n st fun i j => (cell i j).kill (atR N.r))) := of_kill.2 ⟨_, hN, rfl⟩
        have fin : ∀ g, (Instr.sliceAt t (act.eval x) none (some (act.eval up)) none).run P w = .ok g w → (∀ bk, blkOf g = some bk → blkOf (γ N) = some bk) →
            (Keeps w w (E.ow ((s.kill (atR N.r)).own γ)) (E.ow (((s.kill (atR N.r)).setB N.r (some (.row i.elem (.tab m0 st fun i j => (cell i j).kill (atR N.r))))).own (upd γ (rt N.r) g))) →
              BlkOk w (E.ow (((s.kill (atR N.r)).setB N.r (some (.row i.elem (.tab m0 st fun i j => (cell i j).kill (atR N.r))))).own (upd γ (rt N.r) g))) (upd γ (rt N.r) g) (rt N.r) (.row i.elem (.tab m0 st fun i j => (cell i j).kill (atR N.r)))) →
            ∃ v γ', (Instr.sliceAt t (act.eval x) none (some (act.eval up)) none).run P w = .ok v w ∧ Sim E ((((s.kill (atR N.r)).setB N.r (some (.row i.elem (.tab m0 st fun i j => (cell i j).kill (atR N.r))))).put d (.os (rt N.r)))) (act.put (some d) v) w γ' := by
          intro g hr hgb hok
          have hS : Sim E ((s.kill (atR N.r)).setB N.r (some (.row i.elem (.tab m0 st fun i j => (cell i j).kill (atR N.r))))) act w (upd γ (rt N.r) g) := by
            refine hk.replace hlow (quiet_kill s N.r) rfl rfl rfl (Nat.le_refl _) (fun _ _ _ => rfl) (fun bk hbk => .inr ⟨⟨_, by rw [← eN]; exact hNk⟩, by rw [← eN]; exact hgb bk hbk⟩) (fun M hM => ?_) (fun p z hp hz => ?_) hok
            · obtain ⟨k', j', hk', hj', hM⟩ := hM
              have hk' : k' < m0 := hk'
              exact ⟨atR_ne (has_kill hM).2, hk.wf.blk N _ M hNk ⟨k', j', by show k' < n; omega, hj', hM⟩⟩
            · cases p with
              | nil => exact absurd rfl hp
              | cons q p =>
                obtain ⟨i', j'⟩ := q
                obtain ⟨e3, c3, y3, he3, k1, k2, k3, k4⟩ := hz
                cases he3
                have k1 : i' < m0 := k1
                rw [eN] at hNk
                exact ⟨_, at_root.1 hNk, e', _, y3, rfl, by show i' < n; omega, k2, k3, k4⟩
          exact ⟨_, _, hr, hS.put (by exact hd) ⟨rfl, by rw [upd_at]⟩ (fun M hM => (show rt N.r = M from hM) ▸ lv_setB)⟩
        rcases hk.blks N _ hNk with ⟨h0, A, e2⟩ | ⟨bk, o, cap, us, e2, hpos, hc, h2, h3, h4⟩
        · have h0 : n = 0 := h0
          have hm : m0 = 0 := by omega
          refine fin (.slice A 0 0) ?_ (fun bk hbk => by rw [blkOf_slice0] at hbk; cases hbk) (fun _ => .inl ⟨hm, A, by rw [upd_at]⟩)
          rw [key A 0 (by rw [e2, h0]) (by omega), hm]; simp
        · have hc : n ≤ cap := hc
          refine fin (.slice (some ⟨bk, o, none⟩) m0 cap) ?_ (fun b hb => by rw [blkOf_slice hpos] at hb; rw [e2, blkOf_slice hpos]; exact hb) (fun hkp => .inr ⟨bk, o, cap, us, by rw [upd_at]; rfl, hpos, by show m0 ≤ cap; omega, by rw [← e1]; exact h2, h3, fun k' j' hk' hj' => ?_⟩)
          · have hcap : ¬ cap = 0 := by omega
            rw [key (some ⟨bk, o, none⟩) cap e2 hc, if_neg hcap, Nat.zero_mul, Nat.sub_zero, Nat.sub_zero, Option.map_some, add_at, Nat.add_zero]
          · have hk' : k' < m0 := hk'
            obtain ⟨u, h5, h6, h7⟩ := h4 k' j' (by show k' < n; omega) hj'
            refine ⟨u, h5, h6, ?_⟩
            have h8 : CellR w (E.ow ((s.kill (atR N.r)).own γ)) γ N k' j' ((cell k' j').kill (atR N.r)) u := h7
            rw [eN] at h8
            refine h8.keep hkp (fun M hM => ?_) (fun _ => ?_)
            · exact upd_ne _ _ (fun e3 => atR_ne (has_kill hM).2 (by rw [e3]))
            · refine upd_ne _ _ (fun e3 => ?_)
              have := congrArg Nm.p e3
              simp [Nm.kid] at this
    · cases hy
  · cases hy
end
end Go.Proofs.YtaopjdeigpiejaaDoor
namespace Go.Proofs.YtaopjdeigpiejaaDoor
open Go.RowKit
set_option linter.unusedVariables false

def Ct.app : Ct → Ct → Option Ct
  | .ints q xs, .ints q' ys => bif decide (q' = q) then some (.ints q (xs ++ ys)) else none
  | .bools xs, .bools ys => some (.bools (xs ++ ys))
  | .tab n st cell, .tab m st' cell' => bif Nat.beq st' st then some (.tab (n + m) st fun k j => bif Nat.blt k n then cell k j else cell' (k - n) j) else none
  | _, _ => none
/-- What is read out of a row. -/
def Ct.ld (N : Nm) : Ct → Ct
  | .tab n st cell => .tab n st (ldc N cell)
  | c => c
def srcA (s : St) (y : AV) : Option Ct :=
  match y with
  | .os N => (match s.blk N with | some (.row _ c) => some (c.ld N) | _ => none)
  | .ri _ q xs => some (.ints q xs)
  | .rs _ n st cell => some (.tab n st cell)
  | _ => none
/-- Slices that are given to the cells behind the old end. -/
def mvRow (s : St) (N : Nm) (cell : Nat → Nat → AV) : Nat → List (Nat × Nat)
  | 0 => []
  | j + 1 => mvRow s N cell j ++ mvOf1 N j (cell 0 j) s
def appMv (s : St) (N : Nm) (y : AV) : List (Nat × Nat) :=
  match y with
  | .os M => (match s.blk M with | some (.row _ (.tab n st cell)) => (match mvRow s N (ldc M cell) st with | [] => [] | q :: l => bif Nat.beq n 1 && mvOk (q :: l) then q :: l else []) | _ => [])
  | _ => []
/-- append: the row that is written, what it holds then. -/
def appA (s : St) (e size L d : Nat) (x y : AV) : SRes :=
  match srcA s y with
  | some c2 =>
    match x with
    | .os N =>
      (match N.p, s.blk N with
       | [], some (.row e' c) => bif Nat.beq e' e && Nat.beq c.st size && Nat.beq c2.st size && Nat.ble low N.r then
           (match c.app c2 with | some c' => .ok (c'.len ≤ 1073741824) ((((s.kill (atR N.r)).setB N.r (some ((Blk.row e c').kill (atR N.r)))).put d (.os (rt N.r))).mvs (rt N.r) c.len (appMv s N y)) | none => .bad) else .bad
       | _, _ => .bad)
    | .nl => bif Nat.beq c2.st size then (match s.rblk L with | none => .ok (c2.len ≤ 1073741824) (((s.setB L (some (.row e c2))).put d (.os (rt L))).mvs (rt L) 0 (appMv s (rt L) y)) | some _ => .bad) else .bad
    | .e0 => bif Nat.beq c2.st size then (match s.rblk L with | none => .ok (c2.len ≤ 1073741824) (((s.setB L (some (.row e c2))).put d (.os (rt L))).mvs (rt L) 0 (appMv s (rt L) y)) | some _ => .bad) else .bad
    | _ => .bad
  | none => .bad

section
variable {P : Program} {E : Ent0} {w w' : World} {s : St} {act : Act} {γ : Nm → Value}

theorem ld_len (N : Nm) (c : Ct) : (c.ld N).len = c.len := by cases c <;> rfl
theorem ld_st (N : Nm) (c : Ct) : (c.ld N).st = c.st := by cases c <;> rfl
theorem ld_cell (N : Nm) (c : Ct) (k j : Nat) : (c.ld N).cell k j = ldc N c.cell k j := by cases c <;> rfl
theorem mkNews {n st : Nat} {G : Nat → Nat → Value → Prop} (hst : 0 < st) (h : ∀ k j, k < n → j < st → ∃ u, G k j u) :
    ∃ news : List Value, news.length = n * st ∧ ∀ k j, k < n → j < st → ∃ u, news[k * st + j]? = some u ∧ G k j u := by
  have hc : ∀ k j, ∃ u, k < n → j < st → G k j u := fun k j => by
    by_cases hk : k < n
    · by_cases hj : j < st
      · obtain ⟨u, hu⟩ := h k j hk hj; exact ⟨u, fun _ _ => hu⟩
      · exact ⟨undef, fun _ h => absurd h hj⟩
    · exact ⟨undef, fun h => absurd h hk⟩
  let f : Nat → Nat → Value := fun k j => Classical.choose (hc k j)
  have hf : ∀ k j, k < n → j < st → G k j (f k j) := fun k j => Classical.choose_spec (hc k j)
  refine ⟨(List.range (n * st)).map fun i => f (i / st) (i % st), by simp, fun k j hk hj => ⟨f k j, ?_, hf k j hk hj⟩⟩
  have hlt : k * st + j < n * st := by
    have := Nat.mul_le_mul_right st (show k + 1 ≤ n by omega)
    rw [Nat.succ_mul] at this; omega
  have e1 : (k * st + j) / st = k := by rw [Nat.mul_comm, Nat.mul_add_div hst, Nat.div_eq_of_lt hj]; omega
  have e2 : (k * st + j) % st = j := by rw [Nat.mul_comm, Nat.mul_add_mod]; exact Nat.mod_eq_of_lt hj
  simp [hlt, e1, e2]
theorem news_all {n st : Nat} {G : Value → Prop} {news : List Value} (hst : 0 < st) (hl : news.length = n * st) (h : ∀ k j, k < n → j < st → ∃ u, news[k * st + j]? = some u ∧ G u) : ∀ u ∈ news, G u := by
  intro u hu
  obtain ⟨i, hi, he⟩ := List.getElem_of_mem hu
  have hk : i / st < n := by rw [hl] at hi; exact Nat.div_lt_of_lt_mul (by rwa [Nat.mul_comm])
  have hj : i % st < st := Nat.mod_lt _ hst
  have e : i / st * st + i % st = i := by rw [Nat.mul_comm]; exact Nat.div_add_mod i st
  obtain ⟨v, h1, h2⟩ := h _ _ hk hj
  rw [e, List.getElem?_eq_getElem hi, he] at h1
  cases h1
  exact h2

theorem src_sound (h : Sim E s act w γ) {y : AV} {vy : Value} (hr : Reps w (E.ow (s.own γ)) γ y .o [vy]) (hl : s.live y) {c : Ct} (hc : srcA s y = some c) (hst : 0 < c.st) :
    ∃ B cap news, vy = .slice B c.len cap ∧ (news : List Value).length = c.len * c.st ∧ (∀ u ∈ news, u.oneCell' = true) ∧ (0 < c.len → ∃ a, B = some a ∧ ∀ j u, news[j]? = some u → w.cell? (a.add j) = some u) ∧
      (∀ k j, k < c.len → j < c.st → ∃ u, news[k * c.st + j]? = some u ∧ Reps w (E.ow (s.own γ)) γ (c.cell k j) .o [u]) ∧ (∀ k j M, k < c.len → j < c.st → (c.cell k j).has M → s.lv M) ∧ (B = none → c.len = 0) := by
  have key : ∀ (bk o : Nat), (∀ k j, k < c.len → j < c.st → ∃ u, w.cell? ⟨bk, o + (k * c.st + j), none⟩ = some u ∧ u.oneCell' = true ∧ Reps w (E.ow (s.own γ)) γ (c.cell k j) .o [u]) →
      ∃ news : List Value, news.length = c.len * c.st ∧ (∀ u ∈ news, u.oneCell' = true) ∧ (∀ j u, news[j]? = some u → w.cell? ((⟨bk, o, none⟩ : Addr).add j) = some u) ∧
        (∀ k j, k < c.len → j < c.st → ∃ u, news[k * c.st + j]? = some u ∧ Reps w (E.ow (s.own γ)) γ (c.cell k j) .o [u]) := by
    intro bk o hcell
    obtain ⟨news, h1, h2⟩ := mkNews hst hcell
    refine ⟨news, h1, news_all hst h1 (fun k j hk hj => ?_), fun i u hu => ?_, fun k j hk hj => ?_⟩
    · obtain ⟨u, h3, h4⟩ := h2 k j hk hj; exact ⟨u, h3, h4.2.1⟩
    · have hi : i < news.length := (List.getElem?_eq_some_iff.1 hu).1
      have hk : i / c.st < c.len := by rw [h1] at hi; exact Nat.div_lt_of_lt_mul (by rwa [Nat.mul_comm])
      have hj : i % c.st < c.st := Nat.mod_lt _ hst
      have e : i / c.st * c.st + i % c.st = i := by rw [Nat.mul_comm]; exact Nat.div_add_mod i c.st
      obtain ⟨v, h3, h4⟩ := h2 _ _ hk hj
      rw [e, hu] at h3
      cases h3
      rw [e] at h4
      rw [add_at]; exact h4.1
    · obtain ⟨u, h3, h4⟩ := h2 k j hk hj; exact ⟨u, h3, h4.2.2⟩
  cases y with
  | os L =>
    obtain ⟨_, e⟩ := hr
    cases e
    simp only [srcA] at hc
    split at hc
    · rename_i e' c' hLb
      have hL := St.lv_at (hl L rfl) hLb
      cases hc
      have hlv : ∀ k j M, k < (c'.ld L).len → j < (c'.ld L).st → ((c'.ld L).cell k j).has M → s.lv M := fun k j M hk hj hM => by
        rw [ld_len] at hk
        rw [ld_st] at hj
        rw [ld_cell] at hM
        exact ldc_lv h hL hk hj hM
      rcases h.blks L _ hL with ⟨h0, A, e1⟩ | ⟨bk, o, cap, us, e1, hpos, h1, h2, h3, h4⟩
      · exact ⟨A, 0, [], by rw [e1, ld_len, h0], by simp [ld_len, h0], fun u hu => (by cases hu), fun hp => (by rw [ld_len] at hp; omega), fun k j hk => (by rw [ld_len] at hk; omega), hlv, fun _ => by rw [ld_len]; exact h0⟩
      · obtain ⟨news, n1, n2, n3, n4⟩ := key bk o (fun k j hk hj => by
          rw [ld_len] at hk
          rw [ld_st] at hj ⊢
          obtain ⟨u, h5, h6, h7⟩ := h4 k j hk hj
          exact ⟨u, by rw [cell_heap h2]; exact h5, h6, by rw [ld_cell]; exact ldc_rep h7⟩)
        exact ⟨_, cap, news, by rw [e1, ld_len], n1, n2, fun _ => ⟨_, rfl, n3⟩, n4, hlv, fun h => by cases h⟩
    · cases hc
  | ri f q xs =>
    cases hc
    obtain ⟨A, cap, e, h1, h2⟩ := hr
    cases e
    have hlv : ∀ k j M, k < (Ct.ints q xs).len → j < (Ct.ints q xs).st → ((Ct.ints q xs).cell k j).has M → s.lv M := fun k j M _ _ hM => hM.elim
    by_cases h0 : 0 < xs.length
    · obtain ⟨bk, o, rfl, h3, h4, h5⟩ := h2 h0
      obtain ⟨news, n1, n2, n3, n4⟩ := key bk o (fun k j hk hj => by
        have hj' : j < 1 := hj
        obtain rfl : j = 0 := by omega
        exact ⟨.int q (xs.getD k 0), by have := h5 k hk; simpa [Ct.st] using this, rfl, rfl⟩)
      exact ⟨_, cap, news, rfl, n1, n2, fun _ => ⟨_, rfl, n3⟩, n4, hlv, fun h => by cases h⟩
    · have h0' : xs.length = 0 := by omega
      exact ⟨A, cap, [], rfl, by simp [Ct.len, h0'], fun u hu => (by cases hu), fun hp => absurd hp h0, fun k j hk => absurd hk (by simp [Ct.len, h0']), hlv, fun _ => h0'⟩
  | rs f n st cell =>
    cases hc
    obtain ⟨A, cap, e, h1, h2⟩ := hr
    cases e
    by_cases h0 : 0 < n
    · obtain ⟨bk, o, rfl, h3, h4, h5⟩ := h2 h0
      obtain ⟨news, n1, n2, n3, n4⟩ := key bk o (fun k j hk hj => by
        obtain ⟨u, h6, h7, h8⟩ := h5 k j hk hj
        exact ⟨u, h6, h7, h8.ro (ow_mono _ _)⟩)
      exact ⟨_, cap, news, rfl, n1, n2, fun _ => ⟨_, rfl, n3⟩, n4, fun k j M hk hj hM => by
        obtain ⟨u, h6, h7, h8⟩ := h5 k j hk hj
        exact absurd hM h8.has_ro, fun h => by cases h⟩
    · have h0' : n = 0 := by omega
      exact ⟨A, cap, [], rfl, by simp [Ct.len, h0'], fun u hu => (by cases hu), fun hp => absurd hp h0, fun k j hk => absurd hk (by simp [Ct.len, h0']), fun k j M hk => absurd hk (by simp [Ct.len, h0']), fun _ => h0'⟩
  | _ => cases hc

theorem app_spec {c c2 c' : Ct} (h : c.app c2 = some c') (hs : c2.st = c.st) : c'.len = c.len + c2.len ∧ c'.st = c.st ∧ (∀ k j, k < c.len → j < c.st → c'.cell k j = c.cell k j) ∧ (∀ k j, k < c2.len → j < c.st → c'.cell (c.len + k) j = c2.cell k j) ∧
    (∀ k j M, k < c'.len → j < c.st → (c'.cell k j).has M → (k < c.len ∧ (c.cell k j).has M) ∨ ∃ k', k' < c2.len ∧ (c2.cell k' j).has M) := by
  cases c with
  | ints q xs =>
    cases c2 with
    | ints q' ys =>
      simp only [Ct.app] at h
      cases hd : decide (q' = q) with
      | false => rw [hd] at h; cases h
      | true =>
        rw [hd] at h
        cases h
        obtain rfl := of_decide_eq_true hd
        refine ⟨by simp [Ct.len], rfl, fun k j hk hj => ?_, fun k j hk hj => ?_, fun k j M _ _ hM => hM.elim⟩
        · have hk' : k < xs.length := hk
          simp [Ct.cell, ci, List.getElem?_append_left hk']
        · simp [Ct.cell, ci, Ct.len, List.getElem?_append_right (Nat.le_add_right xs.length k)]
    | _ => cases h
  | bools xs =>
    cases c2 with
    | bools ys =>
      cases h
      refine ⟨by simp [Ct.len], rfl, fun k j hk hj => ?_, fun k j hk hj => ?_, fun k j M _ _ hM => hM.elim⟩
      · have hk' : k < xs.length := hk
        simp [Ct.cell, cb, List.getElem?_append_left hk']
      · simp [Ct.cell, cb, Ct.len, List.getElem?_append_right (Nat.le_add_right xs.length k)]
    | _ => cases h
  | tab n st cell =>
    cases c2 with
    | tab m st' cell' =>
      simp only [Ct.app] at h
      cases hd : Nat.beq st' st with
      | false => rw [hd] at h; cases h
      | true =>
        rw [hd] at h
        cases h
        refine ⟨rfl, rfl, fun k j hk hj => ?_, fun k j hk hj => ?_, fun k j M hk hj hM => ?_⟩
        · have hk' : k < n := hk
          simp [Ct.cell, blt_of hk']
        · have : Nat.blt (n + k) n = false := by
            cases hb : Nat.blt (n + k) n with
            | false => rfl
            | true => have := blt_pos hb; omega
          simp [Ct.cell, Ct.len, this]
        · have hM' : (bif Nat.blt k n then cell k j else cell' (k - n) j).has M := hM
          cases hb : Nat.blt k n with
          | true => rw [hb] at hM'; exact .inl ⟨blt_pos hb, hM'⟩
          | false =>
            rw [hb] at hM'
            have hk' : k < n + m := hk
            have hn : ¬ k < n := fun h => by rw [blt_of h] at hb; cases hb
            exact .inr ⟨k - n, by show k - n < m; omega, hM'⟩
    | _ => cases h

theorem run_append0 {t : TypeId} {ty e : TypeId} {i : TypeInfo} (ht : P.underlying t = some (.slice e)) (hi : P.info? e = some i) {A B : Option Addr} {n cap c : Nat} (hn : n ≤ cap) :
    (Builtin.append_ #[t, t] ty #[.slice A n cap, .slice B 0 c]).run P w = .ok (.slice A n cap) w := by
  cases A <;> cases B <;> simp [Builtin.append_, run_underlying ht, sizeOf, typeInfo, hi, Builtin.lenOf, Builtin.firstCells, loadCells, loadCellsFrom, hn, storeCells]
theorem run_append_room' {t ty e : TypeId} {i : TypeInfo} (ht : P.underlying t = some (.slice e)) (hi : P.info? e = some i) {g o n cap : Nat} {us : List Value} (hg : w.heap[g]? = some (.cells us.toArray e (0, 0)))
    {a : Addr} {m c : Nat} {news : List Value} (hl : news.length = m * i.size) (hnews : ∀ j u, news[j]? = some u → w.cell? (a.add j) = some u) (h1 : ∀ u ∈ news, u.oneCell' = true) (hroom : n + m ≤ cap) (hfit : o + n * i.size + news.length ≤ us.length) :
    (Builtin.append_ #[t, t] ty #[.slice (some ⟨g, o, none⟩) n cap, .slice (some a) m c]).run P w =
      .ok (.slice (some ⟨g, o, none⟩) (n + m) cap) (w.setRow g (us.take (o + n * i.size) ++ news ++ us.drop (o + n * i.size + news.length)).toArray) := by
  have hf := run_firstCells_some (P := P) w i.size m a m c news hl hnews
  have hst := run_storeCells_at P g (o + n * i.size) e news 0 us.toArray w hg (by simpa using hfit) h1
  simp only [Nat.add_zero] at hst
  simp [Builtin.append_, run_underlying ht, sizeOf, typeInfo, hi, Builtin.lenOf, hroom, hf, Addr.add_lit, hst]

/-- What append leaves: the old slice and its cells; in the old block, in a new one, or nothing at all. -/
theorem run_append_any {t : Nat} {i e : TyI} (hi : tyChk P t i = true) (he : tyChk P i.elem e = true) (hne : i.elem ≠ 0) (hsz : 0 < e.size) (hby : e.bytes ≤ 256) (ty : TypeId) {A B : Option Addr} {n cap m c2 : Nat} {olds news : List Value}
    (hn : n ≤ cap) (hA : A = none → n = 0 ∧ cap = 0) (hB : 0 < m → ∃ a, B = some a ∧ ∀ j u, news[j]? = some u → w.cell? (a.add j) = some u) (hl : news.length = m * e.size) (h1 : ∀ u ∈ news, u.oneCell' = true) (hb : n + m ≤ 1073741824)
    (hold : ∀ a, A = some a → 0 < cap → ∃ bk o us, a = ⟨bk, o, none⟩ ∧ w.heap[bk]? = some (.cells (List.toArray us) i.elem (0, 0)) ∧ o + cap * e.size ≤ us.length ∧ olds = (us.drop o).take (n * e.size)) (holen : olds.length = n * e.size) :
    (m = 0 ∧ (Builtin.append_ #[t, t] ty #[.slice A n cap, .slice B m c2]).run P w = .ok (.slice A n cap) w) ∨
    (∃ bk o us, A = some ⟨bk, o, none⟩ ∧ 0 < cap ∧ w.heap[bk]? = some (.cells (List.toArray us) i.elem (0, 0)) ∧ n + m ≤ cap ∧ o + cap * e.size ≤ us.length ∧ olds = (us.drop o).take (n * e.size) ∧
      (Builtin.append_ #[t, t] ty #[.slice A n cap, .slice B m c2]).run P w = .ok (.slice A (n + m) cap) (w.setRow bk (us.take (o + n * e.size) ++ news ++ us.drop (o + n * e.size + news.length)).toArray)) ∨
    (∃ cap' rest, n + m ≤ cap' ∧ (olds ++ news ++ rest).length = cap' * e.size ∧
      (Builtin.append_ #[t, t] ty #[.slice A n cap, .slice B m c2]).run P w = .ok (.slice (some ⟨w.heap.size, 0, none⟩) (n + m) cap') (w.drew.alloc (.cells (olds ++ news ++ rest).toArray i.elem))) := by
  have hu := tyChk_elem hi hne
  obtain ⟨inf, z, i1, i2, i3, i4, i5⟩ := tyChk_info he
  have hzl : z.cells.size = e.size := by rw [← tyChk_zero he, zero_len i5]; simp
  rcases Nat.eq_zero_or_pos m with rfl | hm
  · exact .inl ⟨rfl, run_append0 hu i1 hn⟩
  · right
    obtain ⟨a, rfl, hnews⟩ := hB hm
    have hl' : news.length = m * inf.size := by rw [i2]; exact hl
    cases A with
    | none =>
      obtain ⟨rfl, rfl⟩ := hA rfl
      have ho : olds = [] := List.eq_nil_of_length_eq_zero (by simpa using holen)
      subst ho
      right
      have hr := run_append_nil (P := P) w t ty i.elem inf z hu i1 i4 a m c2 news hl' hnews hm (by omega) (by
        rw [i3]
        have : m * e.bytes ≤ 1073741824 * 256 := Nat.mul_le_mul (by omega) hby
        omega)
      have hge := grownCap_ge w m 0 i.elem
      refine ⟨grownCap w m 0 i.elem, (Builtin.zeroCells z.cells (grownCap w m 0 i.elem - m)).toList, by simpa using hge, ?_, ?_⟩
      · simp only [List.nil_append, List.length_append, Array.length_toList, size_zeroCells, hzl, hl, ← Nat.add_mul]
        congr 1; omega
      · rw [Nat.zero_add, hr]
        congr 3
        apply Array.ext'
        simp
    | some a0 =>
      rcases Nat.eq_zero_or_pos cap with hcap0 | hcap
      · have hn0 : n = 0 := by omega
        subst hn0
        have ho : olds = [] := List.eq_nil_of_length_eq_zero (by simpa using holen)
        subst ho
        right
        have hr := run_append_grow (P := P) w t ty i.elem inf z hu i1 i4 a0 0 cap [] (by simp) (fun j v hv => by simp at hv) a m c2 news hl' hnews (by omega) (by omega) (growslice_fits (by omega) (by
          rw [i3]
          have : (0 + m) * e.bytes ≤ 1073741824 * 256 := Nat.mul_le_mul hb hby
          omega))
        have hge := grownCap_ge w (0 + m) cap i.elem
        refine ⟨grownCap w (0 + m) cap i.elem, (Builtin.zeroCells z.cells (grownCap w (0 + m) cap i.elem - (0 + m))).toList, hge, ?_, ?_⟩
        · simp only [List.nil_append, List.length_append, Array.length_toList, size_zeroCells, hzl, hl, ← Nat.add_mul]
          congr 1; omega
        · rw [hr]
          congr 3
          apply Array.ext'
          simp
      obtain ⟨bk, o, us, rfl, h2, h3, h4⟩ := hold a0 rfl hcap
      by_cases hroom : n + m ≤ cap
      · left
        have hfit : o + n * inf.size + news.length ≤ us.length := by
          rw [i2, hl]
          have := Nat.mul_le_mul_right e.size hroom
          rw [Nat.add_mul] at this
          omega
        have hr := run_append_room' (P := P) (ty := ty) (c := c2) hu i1 h2 hl' hnews h1 hroom hfit
        rw [i2] at hr
        exact ⟨bk, o, us, rfl, hcap, h2, hroom, h3, h4, hr⟩
      · right
        have holds : ∀ j v, olds[j]? = some v → w.cell? ((⟨bk, o, none⟩ : Addr).add j) = some v := fun j v hv => by
          rw [add_at, cell_heap h2]
          rw [h4, List.getElem?_take] at hv
          split at hv
          · rw [List.getElem?_drop] at hv; exact hv
          · cases hv
        have hr := run_append_grow (P := P) w t ty i.elem inf z hu i1 i4 ⟨bk, o, none⟩ n cap olds (by rw [i2]; exact holen) holds a m c2 news hl' hnews (by omega) (by omega) (growslice_fits (by omega) (by
          rw [i3]
          have : (n + m) * e.bytes ≤ 1073741824 * 256 := Nat.mul_le_mul hb hby
          omega))
        have hge := grownCap_ge w (n + m) cap i.elem
        refine ⟨grownCap w (n + m) cap i.elem, (Builtin.zeroCells z.cells (grownCap w (n + m) cap i.elem - (n + m))).toList, hge, ?_, ?_⟩
        · simp only [List.length_append, Array.length_toList, size_zeroCells, hzl, hl, holen, ← Nat.add_mul]
          congr 1; omega
        · rw [hr]
          congr 3
          apply Array.ext'
          simp

/-- The row that append leaves. -/
theorem row_appended {own' : Bool → Nat → Prop} {γ' : Nm → Value} {N : Nm} {Q : Nm → Bool} {e size : Nat} {c c2 c' : Ct} {olds news us rest : List Value} {bk o cap' : Nat} (hsize : 0 < size) (hst : c.st = size) (hst2 : c2.st = size) (happ : c.app c2 = some c')
    (holen : olds.length = c.len * size) (hl : news.length = c2.len * size) (hN : γ' N = .slice (some ⟨bk, o, none⟩) (c.len + c2.len) cap') (hpos : 0 < cap') (hcap : c.len + c2.len ≤ cap') (hheap : w'.heap[bk]? = some (.cells us.toArray e (0, 0))) (hfit : o + cap' * size ≤ us.length)
    (hus : us.drop o = olds ++ news ++ rest) (ho1 : ∀ k j, k < c.len → j < size → ∃ u, olds[k * size + j]? = some u ∧ u.oneCell' = true ∧ CellR w' own' γ' N k j ((c.cell k j).kill Q) u)
    (hn1 : ∀ k j, k < c2.len → j < size → ∃ u, news[k * size + j]? = some u ∧ Reps w' own' γ' ((c2.cell k j).kill Q) .o [u]) (hn2 : ∀ u ∈ news, u.oneCell' = true) : BlkOk w' own' γ' N ((Blk.row e c').kill Q) := by
  obtain ⟨a1, a2, a3, a4, a5⟩ := app_spec happ (hst2.trans hst.symm)
  refine .inr ⟨bk, o, cap', us, by rw [Ct.kill_len, a1]; exact hN, hpos, by rw [Ct.kill_len, a1]; exact hcap, hheap, by rw [Ct.kill_st, a2, hst]; exact hfit, fun k j hk hj => ?_⟩
  rw [Ct.kill_len, a1] at hk
  rw [Ct.kill_st, a2, hst] at hj ⊢
  rw [Ct.kill_cell, ← List.getElem?_drop, hus, List.append_assoc]
  by_cases hlt : k < c.len
  · obtain ⟨u, h1, h2, h3⟩ := ho1 k j hlt hj
    refine ⟨u, ?_, h2, by rw [a3 k j hlt (by omega)]; exact h3⟩
    rw [List.getElem?_append_left (List.getElem?_eq_some_iff.1 h1).1]; exact h1
  · obtain ⟨k', rfl⟩ : ∃ k', k = c.len + k' := ⟨k - c.len, by omega⟩
    obtain ⟨u, h1, h3⟩ := hn1 k' j (by omega) hj
    refine ⟨u, ?_, hn2 u (List.mem_of_getElem? h1), by rw [a4 k' j (by omega) (by omega)]; exact .of h3⟩
    have e : (c.len + k') * size + j = olds.length + (k' * size + j) := by rw [holen, Nat.add_mul]; omega
    rw [e, List.getElem?_append_right (Nat.le_add_right _ _), Nat.add_sub_cancel_left, List.getElem?_append_left (List.getElem?_eq_some_iff.1 h1).1]
    exact h1

theorem append_os (h : Sim E s act w γ) {t : Nat} {i e : TyI} (hi : tyChk P t i = true) (he : tyChk P i.elem e = true) (hne : i.elem ≠ 0) (hsz : 0 < e.size) (hby : e.bytes ≤ 256) (ty : TypeId) {R : Nat} (hlow : low ≤ R) {c c2 c' : Ct} {y : AV} {vy : Value}
    (hN : s.at (rt R) (.row i.elem c)) (hy : Reps w (E.ow (s.own γ)) γ y .o [vy]) (hly : s.live y) (hc2 : srcA s y = some c2) (hst : c.st = e.size) (hst2 : c2.st = e.size) (happ : c.app c2 = some c') (hlen : c'.len ≤ 1073741824) :
    ∃ v w' γ', (Builtin.append_ #[t, t] ty #[γ (rt R), vy]).run P w = .ok v w' ∧ Sim E ((s.kill (atR R)).setB R (some ((Blk.row i.elem c').kill (atR R)))) act w' γ' ∧ v = γ' (rt R) := by
  obtain ⟨a1, a2, a3, a4, a5⟩ := app_spec happ (hst2.trans hst.symm)
  obtain ⟨B, capy, news, rfl, n1, n2, n3, n4, n5, n6⟩ := src_sound h hy hly hc2 (by omega)
  rw [hst2] at n1 n4 n5
  have hk := h.kill (atR R)
  have hkN : (s.kill (atR R)).at (rt R) ((Blk.row i.elem c).kill (atR R)) := of_kill.2 ⟨_, hN, rfl⟩
  have hq := quiet_kill s R
  have nosub : ∀ k j, k < c2.len → j < c.st → (c2.cell k j).sub = none := fun k j hk1 hj1 => by
    obtain ⟨u, _, h3⟩ := n4 k j hk1 (by omega)
    exact sub_cell_none h3
  have mx : ∀ M, ((Blk.row i.elem c').kill (atR R)).has M → M.r ≠ R ∧ (s.kill (atR R)).lv M := fun M hM => by
    obtain ⟨⟨k, j, hk1, hj1, hM1⟩, hM2⟩ := hasB_kill hM
    refine ⟨atR_ne hM2, lv_kill.2 ?_⟩
    have hj2 : j < c.st := by rw [a2] at hj1; exact hj1
    rcases a5 k j M hk1 hj2 hM1 with ⟨hk2, hM3⟩ | ⟨k', hk2, hM3⟩
    · exact h.wf.blk _ _ M hN ⟨k, j, hk2, hj2, hM3⟩
    · exact n5 k' j M hk2 (by omega) hM3
  have hsub : ∀ p z, p ≠ [] → ((Blk.row i.elem c').kill (atR R)).At p z → (s.kill (atR R)).at ⟨R, p⟩ z := fun p z hp hz => by
    obtain ⟨z0, h1, rfl⟩ := at_kill.1 hz
    refine of_kill.2 ⟨z0, ?_, rfl⟩
    cases p with
    | nil => exact absurd rfl hp
    | cons q p =>
      obtain ⟨k, j⟩ := q
      obtain ⟨e2, c3, y, he2, g1, g2, g3, g4⟩ := h1
      cases he2
      rw [a2] at g2
      have hkl : k < c.len := by
        rcases Nat.lt_or_ge k c.len with h5 | h5
        · exact h5
        · rw [show k = c.len + (k - c.len) by omega, a4 (k - c.len) j (by omega) g2, nosub _ _ (by omega) g2] at g3; cases g3
      rw [a3 k j hkl g2] at g3
      have := (at_below (r := (k, j) :: p) hN).2 ⟨_, c, y, rfl, hkl, g2, g3, g4⟩
      simpa using this
  -- the old slice
  obtain ⟨A, cap, olds, e1, o1, o2, o3, o4, o5⟩ : ∃ A cap olds, γ (rt R) = .slice A c.len cap ∧ c.len ≤ cap ∧ (A = none → c.len = 0 ∧ cap = 0) ∧
      (∀ a, A = some a → 0 < cap → ∃ bk o us, a = ⟨bk, o, none⟩ ∧ w.heap[bk]? = some (.cells (List.toArray us) i.elem (0, 0)) ∧ o + cap * e.size ≤ us.length ∧ olds = (us.drop o).take (c.len * e.size)) ∧
      (olds : List Value).length = c.len * e.size ∧ ∀ k j, k < c.len → j < e.size → ∃ u, olds[k * e.size + j]? = some u ∧ u.oneCell' = true ∧ CellR w (E.ow (s.own γ)) γ (rt R) k j (c.cell k j) u := by
    rcases h.blks _ _ hN with ⟨h0, A, e1⟩ | ⟨bk, o, cap, us, e1, hpos, h1, h2, h3, h4⟩
    · exact ⟨A, 0, [], by rw [e1, h0], by omega, (fun _ => ⟨h0, rfl⟩), (fun a ha hp => by omega), by simp [h0], (fun k j hk => by omega)⟩
    · rw [hst] at h3 h4
      have hle : c.len * e.size ≤ cap * e.size := Nat.mul_le_mul_right _ h1
      refine ⟨_, cap, (us.drop o).take (c.len * e.size), e1, h1, (fun h => by cases h), (fun a ha _ => ⟨bk, o, us, (by cases ha; rfl), h2, h3, rfl⟩), (by simp; omega), fun k j hk hj => ?_⟩
      obtain ⟨u, h5, h6, h7⟩ := h4 k j hk hj
      have hlt : k * e.size + j < c.len * e.size := by
        have := Nat.mul_le_mul_right e.size (show k + 1 ≤ c.len by omega)
        rw [Nat.succ_mul] at this; omega
      exact ⟨u, by rw [List.getElem?_take, if_pos hlt, List.getElem?_drop]; exact h5, h6, h7⟩
  have hkids : ∀ {g : Value} {i j : Nat}, upd γ (rt R) g ((rt R).kid i j) = γ ((rt R).kid i j) := fun {g i j} => upd_ne _ _ (fun e => by have := congrArg Nm.p e; simp [Nm.kid] at this)
  have hnone : ∀ {own' : Bool → Nat → Prop} {w' : World} {g : Value}, Keeps w w' (E.ow (s.own γ)) own' →
      (∀ k j, k < c.len → j < e.size → ∃ u, olds[k * e.size + j]? = some u ∧ u.oneCell' = true ∧ CellR w' own' (upd γ (rt R) g) (rt R) k j ((c.cell k j).kill (atR R)) u) ∧
      (∀ k j, k < c2.len → j < e.size → ∃ u, news[k * e.size + j]? = some u ∧ Reps w' own' (upd γ (rt R) g) ((c2.cell k j).kill (atR R)) .o [u]) := fun hkp => by
    refine ⟨fun k j hk hj => ?_, fun k j hk hj => ?_⟩
    · obtain ⟨u, h1, h2, h3⟩ := o5 k j hk hj
      exact ⟨u, h1, h2, h3.kill.keep hkp (fun M hM => upd_ne _ _ (fun e => atR_ne (has_kill hM).2 (by rw [e]))) (fun _ => hkids)⟩
    · obtain ⟨u, h1, h3⟩ := n4 k j hk hj
      exact ⟨u, h1, (h3.kill.keep hkp).gam (fun _ M hM => upd_ne _ _ (fun e => atR_ne (has_kill hM).2 (by rw [e])))⟩
  have hrun := run_append_any (P := P) (w := w) (c2 := capy) hi he hne hsz hby ty o1 o2 n3 n1 n2 (by omega) o3 o4
  have hlvR : (s.kill (atR R)).lv (rt R) := ⟨_, hkN⟩
  have ownS : (s.kill (atR R)).own γ = s.own γ := own_kill
  rw [e1]
  rcases hrun with ⟨hm, hr⟩ | ⟨bk, o, us, rfl, hpos, h2, hroom, hfit, hold, hr⟩ | ⟨cap', rest, hcap, hlen', hr⟩
  · refine ⟨_, w, upd γ (rt R) (γ (rt R)), hr, ?_, by rw [upd_at, e1]⟩
    refine hk.replace hlow hq rfl rfl rfl (Nat.le_refl _) (fun _ _ _ => rfl) (fun bk hb => .inr ⟨hlvR, hb⟩) mx hsub (fun hkp => ?_)
    rw [ownS] at hkp
    obtain ⟨q1, q2⟩ := hnone (g := γ (rt R)) hkp
    have hnews : news = [] := List.eq_nil_of_length_eq_zero (by rw [n1, hm]; simp)
    rcases Nat.eq_zero_or_pos cap with hc0 | hpos
    · exact .inl ⟨by rw [Ct.kill_len, a1]; omega, A, by rw [upd_at, e1, hc0, show c.len = 0 by omega]⟩
    · cases A with
      | none => have := (o2 rfl).2; omega
      | some a =>
        obtain ⟨bk, o, us, rfl, h2, h3, h4⟩ := o3 a rfl hpos
        refine row_appended hsz hst hst2 happ o4 n1 (us := us) (bk := bk) (o := o) (cap' := cap) (rest := (us.drop o).drop (c.len * e.size)) (by rw [upd_at, e1, hm]; rfl) hpos (by omega) h2 h3 ?_ q1 q2 n2
        rw [hnews, h4, List.append_nil, List.take_append_drop]
  · refine ⟨_, _, upd γ (rt R) (.slice (some ⟨bk, o, none⟩) (c.len + c2.len) cap), hr, ?_, by rw [upd_at]⟩
    have hbN : blkOf (γ (rt R)) = some bk := by rw [e1, blkOf_slice hpos]
    refine hk.replace hlow hq rfl rfl rfl (Nat.le_of_eq (setRow_size _ _ _).symm) (fun k _ hne' => setRow_other w bk k _ (fun e2 => hne' hlvR (by rw [e2]; exact hbN))) (fun b hb => .inr ⟨hlvR, by rw [blkOf_slice hpos] at hb; cases hb; exact hbN⟩) mx hsub (fun hkp => ?_)
    rw [ownS] at hkp
    obtain ⟨q1, q2⟩ := hnone (g := .slice (some ⟨bk, o, none⟩) (c.len + c2.len) cap) hkp
    have hfit2 : o + c.len * e.size + news.length ≤ us.length := by
      rw [n1]
      have := Nat.mul_le_mul_right e.size hroom
      rw [Nat.add_mul] at this
      omega
    refine row_appended hsz hst hst2 happ o4 n1 (rest := us.drop (o + c.len * e.size + news.length)) (upd_at _ _ _) hpos hroom (setRow_heap w bk _ _ _ _ h2) ?_ ?_ q1 q2 n2
    · simp only [List.length_append, List.length_take, List.length_drop]; omega
    · rw [List.append_assoc, List.append_assoc, List.drop_append_of_le_length (by simp; omega), hold]
      congr 1
      rw [List.drop_take]
      simp
  · refine ⟨_, _, upd γ (rt R) (.slice (some ⟨w.heap.size, 0, none⟩) (c.len + c2.len) cap'), hr, ?_, by rw [upd_at]⟩
    have hsize : (w.drew.alloc (.cells (olds ++ news ++ rest).toArray i.elem)).heap.size = w.heap.size + 1 := by simp
    have hsame : ∀ k, k < w.heap.size → (w.drew.alloc (.cells (olds ++ news ++ rest).toArray i.elem)).heap[k]? = w.heap[k]? := fun k hk => Below.heap_alloc w.drew _ k hk
    refine hk.replace hlow hq rfl rfl rfl (by omega) (fun k hk _ => hsame k hk) (fun b hb => .inl ?_) mx hsub (fun hkp => ?_)
    · rcases Nat.eq_zero_or_pos cap' with h0 | h0
      · rw [h0, blkOf_slice0] at hb; cases hb
      · rw [blkOf_slice h0] at hb
        have hb' : w.heap.size = b := by simpa using hb
        omega
    · rw [ownS] at hkp
      obtain ⟨q1, q2⟩ := hnone (g := .slice (some ⟨w.heap.size, 0, none⟩) (c.len + c2.len) cap') hkp
      rcases Nat.eq_zero_or_pos cap' with h0 | h0
      · exact .inl ⟨by rw [Ct.kill_len, a1]; omega, _, by rw [upd_at, h0, show c.len + c2.len = 0 by omega]⟩
      · exact row_appended hsz hst hst2 happ o4 n1 (rest := rest) (upd_at _ _ _) h0 hcap (heap_alloc_new w.drew _) (by simpa using Nat.le_of_eq hlen'.symm) (by simp) q1 q2 n2
end
end Go.Proofs.YtaopjdeigpiejaaDoor
namespace Go.Proofs.YtaopjdeigpiejaaDoor
open Go.RowKit
set_option linter.unusedVariables false

section
variable {P : Program} {E : Ent0} {w w' : World} {s : St} {act : Act} {γ : Nm → Value}

theorem append_new (h : Sim E s act w γ) {t : Nat} {i e : TyI} (hi : tyChk P t i = true) (he : tyChk P i.elem e = true) (hne : i.elem ≠ 0) (hsz : 0 < e.size) (hby : e.bytes ≤ 256) (ty : TypeId) {L : Nat} (hlow : low ≤ L) {c2 : Ct} {y : AV} {vy : Value} {A : Option Addr}
    (hL : s.rblk L = none) (hy : Reps w (E.ow (s.own γ)) γ y .o [vy]) (hly : s.live y) (hc2 : srcA s y = some c2) (hst2 : c2.st = e.size) (hlen : c2.len ≤ 1073741824) :
    ∃ v w' γ', (Builtin.append_ #[t, t] ty #[.slice A 0 0, vy]).run P w = .ok v w' ∧ Sim E (s.setB L (some (.row i.elem c2))) act w' γ' ∧ v = γ' (rt L) := by
  obtain ⟨B, capy, news, rfl, n1, n2, n3, n4, n5, n6⟩ := src_sound h hy hly hc2 (by omega)
  rw [hst2] at n1 n4 n5
  have hflat : (Blk.row i.elem c2).flatB := fun e' c' he' k j hk hj => by
    cases he'
    obtain ⟨u, _, h3⟩ := n4 k j hk (by rw [← hst2]; exact hj)
    exact sub_cell_none h3
  have mx : ∀ M, (Blk.row i.elem c2).has M → s.lv M := fun M ⟨k, j, hk, hj, hM⟩ => n5 k j M hk (by rw [← hst2]; exact hj) hM
  have hrun := run_append_any (P := P) (w := w) (A := A) (n := 0) (cap := 0) (olds := []) (c2 := capy) hi he hne hsz hby ty (Nat.le_refl _) (fun _ => ⟨rfl, rfl⟩) n3 n1 n2 (by omega) (fun a ha hp => by omega) (by simp)
  rcases hrun with ⟨hm, hr⟩ | ⟨bk, o, us, e1, hpos, _⟩ | ⟨cap', rest, hcap, hlen', hr⟩
  · refine ⟨_, w, upd γ (rt L) (.slice A 0 0), hr, ?_, by rw [upd_at]⟩
    exact h.new hL hlow (Fr.refl _ _) (fun bk hb => by rw [blkOf_slice0] at hb; cases hb) hflat mx (fun _ => .inl ⟨hm, A, upd_at _ _ _⟩)
  · omega
  · refine ⟨_, _, upd γ (rt L) (.slice (some ⟨w.heap.size, 0, none⟩) (0 + c2.len) cap'), hr, ?_, by rw [upd_at]⟩
    have hfr : Fr (fun _ => False) w (w.drew.alloc (.cells ([] ++ news ++ rest).toArray i.elem)) := ⟨rfl, rfl, rfl, by simp, fun k hk _ => Below.heap_alloc w.drew _ k hk⟩
    refine h.new hL hlow hfr (fun b hb => ?_) hflat mx (fun hk => ?_)
    · rcases Nat.eq_zero_or_pos cap' with h0 | h0
      · rw [h0, blkOf_slice0] at hb; cases hb
      · rw [blkOf_slice h0] at hb
        have hb' : w.heap.size = b := by simpa using hb
        rw [← hb']
        simp
    · rcases Nat.eq_zero_or_pos cap' with h0 | h0
      · exact .inl ⟨by omega, _, by rw [upd_at, h0, show 0 + c2.len = 0 by omega]⟩
      · refine .inr ⟨w.heap.size, 0, cap', [] ++ news ++ rest, by rw [upd_at, Nat.zero_add], h0, by omega, heap_alloc_new w.drew _, by rw [hst2, hlen']; omega, fun k j hk' hj => ?_⟩
        have hj' : j < e.size := by rw [← hst2]; exact hj
        obtain ⟨u, h1, h2⟩ := n4 k j hk' hj'
        refine ⟨u, ?_, n2 u (List.mem_of_getElem? h1), .of ((h2.keep hk).gam (fun _ M hM => upd_ne _ _ (fun e3 => not_lv hL (mx M ⟨k, j, hk', hj, hM⟩) (by rw [e3]))))⟩
        rw [hst2, Nat.zero_add, List.nil_append, List.getElem?_append_left (List.getElem?_eq_some_iff.1 h1).1]
        exact h1

theorem mvRow_spec {N M : Nm} {cell : Nat → Nat → AV} : ∀ {st : Nat} {p : Nat × Nat}, p ∈ mvRow s N cell st → p.1 < st ∧ cell 0 p.1 = .os (rt p.2) ∧ p.2 ≠ N.r ∧ low ≤ p.2 ∧ ∃ y, s.rblk p.2 = some y ∧ y.nest = true := by
  intro st
  induction st with
  | zero => intro p h; cases h
  | succ st ih =>
    intro p h
    unfold mvRow at h
    rcases List.mem_append.1 h with h | h
    · obtain ⟨h1, h2⟩ := ih h; exact ⟨by omega, h2⟩
    · obtain ⟨h1, h2, h3⟩ := mvOf1_spec h
      exact ⟨by omega, by rw [h1]; exact h2, h3⟩
theorem appMv_spec {N : Nm} {y : AV} {c2 : Ct} (hc : srcA s y = some c2) {p : Nat × Nat} (hp : p ∈ appMv s N y) : c2.len = 1 ∧ p.1 < c2.st ∧ c2.cell 0 p.1 = .os (rt p.2) ∧ p.2 ≠ N.r ∧ low ≤ p.2 ∧ (∃ z, s.rblk p.2 = some z ∧ z.nest = true) := by
  unfold appMv at hp
  split at hp
  · rename_i M
    split at hp
    · rename_i e n st cell hb
      split at hp
      · cases hp
      · rename_i q0 l0 hm
        cases hq : (Nat.beq n 1 && mvOk (q0 :: l0)) with
        | false => rw [hq] at hp; cases hp
        | true =>
          rw [hq] at hp
          simp only [cond_true] at hp
          simp only [Bool.and_eq_true] at hq
          have hn := Nat.eq_of_beq_eq_true hq.1
          have e2 : c2 = .tab n st (ldc M cell) := by
            simp only [srcA, hb] at hc
            cases hc; rfl
          subst e2
          rw [← hm] at hp
          exact ⟨hn, mvRow_spec (M := M) hp⟩
    · cases hp
  · cases hp
theorem appMv_ok {N : Nm} {y : AV} : mvOk (appMv s N y) = true := by
  unfold appMv
  split
  · split
    · rename_i M _ e n st cell _
      split
      · rfl
      · rename_i q0 l0 hm
        cases hq : (Nat.beq n 1 && mvOk (q0 :: l0)) with
        | false => rfl
        | true => simp only [Bool.and_eq_true] at hq; exact hq.2
    · rfl
  · rfl

theorem app_soundA (h : Sim E s act w γ) {t : Nat} {i e : TyI} (hi : tyChk P t i = true) (he : tyChk P i.elem e = true) (hne : i.elem ≠ 0) (hsz : 0 < e.size) (hby : e.bytes ≤ 256) (ty : TypeId) {L d : Nat} (hlow : low ≤ L) (hd : d < s.n) {x y : AV} {vx vy : Value} (hx1 : Reps w (E.ow (s.own γ)) γ x .o [vx]) (hx2 : s.live x) (hy1 : Reps w (E.ow (s.own γ)) γ y .o [vy]) (hy2 : s.live y) {p : Prop} {s' : St}
    (hap : appA s i.elem e.size L d x y = .ok p s') (hp : p) : ∃ v w' γ', (Builtin.append_ #[t, t] ty #[vx, vy]).run P w = .ok v w' ∧ Sim E s' (act.put (some d) v) w' γ' := by
  have fresh : ∀ (A : Option Addr), vx = .slice A 0 0 → ∀ {c2 : Ct}, srcA s (y) = some c2 → c2.st = e.size → s.rblk L = none → c2.len ≤ 1073741824 →
      ∃ v w' γ', (Builtin.append_ #[t, t] ty #[vx, vy]).run P w = .ok v w' ∧ Sim E (((s.setB L (some (.row i.elem c2))).put d (.os (rt L))).mvs (rt L) 0 (appMv s (rt L) (y))) (act.put (some d) v) w' γ' := by
    intro A hA c2 hc2 hst hL hlen
    obtain ⟨v, w', γ', r1, r2, r3⟩ := append_new (P := P) (A := A) h hi he hne hsz hby ty hlow hL hy1 hy2 hc2 hst hlen
    have hS := r2.put (d := d) (v := v) (x := .os (rt L)) (by exact hd) ⟨rfl, by rw [r3]⟩ (fun M hM => (show rt L = M from hM) ▸ lv_setB)
    have hat : ((s.setB L (some (.row i.elem c2))).put d (.os (rt L))).at (rt L) (.row i.elem c2) := at_setB_eq.2 rfl
    rcases Nat.eq_zero_or_pos c2.len with h0 | h0
    · have hnil : appMv s (rt L) (y) = [] := by
        cases hl : appMv s (rt L) (y) with
        | nil => rfl
        | cons q l => have := (appMv_spec (N := rt L) hc2 (p := q) (by rw [hl]; simp)).1; omega
      rw [hnil]
      exact ⟨v, w', γ', by rw [hA]; exact r1, hS⟩
    · obtain ⟨γ2, h2⟩ := hS.mvs (appMv s (rt L) (y)) hat h0 appMv_ok (fun q hq => by
        obtain ⟨g1, g2, g3, g4, g5, z, g6, g7⟩ := appMv_spec (N := rt L) hc2 hq
        refine ⟨g2, g3, g4, z, ?_, g7⟩
        show (s.setB L _).rblk q.2 = _
        rw [St.rblk_setB, if_neg (Ne.symm g4)]; exact g6)
      exact ⟨v, w', γ2, by rw [hA]; exact r1, h2⟩
  unfold appA at hap
  split at hap
  · rename_i c2 hc2
    split at hap
    · rename_i N
      obtain ⟨_, ex⟩ := hx1
      have ex' : vx = γ N := by simpa using ex
      split at hap
      · rename_i e' cc hNp hb'
        cases hbc : (Nat.beq e' i.elem && Nat.beq cc.st e.size && Nat.beq c2.st e.size && Nat.ble low N.r) with
        | false => rw [hbc] at hap; cases hap
        | true =>
          rw [hbc] at hap
          simp only [cond_true] at hap
          simp only [Bool.and_eq_true] at hbc
          obtain ⟨⟨⟨k1, k2⟩, k3⟩, k4⟩ := hbc
          obtain rfl := Nat.eq_of_beq_eq_true k1
          have hNat := St.lv_at (hx2 N rfl) hb'
          have eN : N = rt N.r := by obtain ⟨r, q⟩ := N; simp only at hNp; rw [hNp]
          split at hap
          · rename_i c' happ
            cases hap
            have hst := Nat.eq_of_beq_eq_true k2
            have hst2 := Nat.eq_of_beq_eq_true k3
            obtain ⟨v, w', γ', r1, r2, r3⟩ := append_os (P := P) h hi he hne hsz hby ty (Nat.le_of_ble_eq_true k4) (by rw [← eN]; exact hNat) hy1 hy2 hc2 hst hst2 happ hp
            rw [← eN] at r1
            obtain ⟨a1, a2, a3, a4, a5⟩ := app_spec happ (hst2.trans hst.symm)
            have hS := r2.put (d := d) (v := v) (x := .os (rt N.r)) (by exact hd) ⟨rfl, by rw [r3]⟩ (fun M hM => (show rt N.r = M from hM) ▸ lv_setB)
            have hat : (((s.kill (atR N.r)).setB N.r (some ((Blk.row i.elem c').kill (atR N.r)))).put d (.os (rt N.r))).at (rt N.r) (.row i.elem (c'.kill (atR N.r))) := at_setB_eq.2 rfl
            rw [show appMv s N (y) = appMv s (rt N.r) (y) by rw [← eN]]
            rcases Nat.eq_zero_or_pos c2.len with h0 | h0
            · have hnil : appMv s (rt N.r) (y) = [] := by
                cases hl : appMv s (rt N.r) (y) with
                | nil => rfl
                | cons q l => have := (appMv_spec (N := rt N.r) hc2 (p := q) (by rw [hl]; simp)).1; omega
              rw [hnil]
              exact ⟨v, w', γ', by rw [ex']; exact r1, hS⟩
            · obtain ⟨γ2, h2⟩ := hS.mvs (k := cc.len) (appMv s (rt N.r) (y)) hat (by rw [Ct.kill_len, a1]; omega) appMv_ok (fun q hq => by
                obtain ⟨g1, g2, g3, g4, g5, z, g6, g7⟩ := appMv_spec (N := rt N.r) hc2 hq
                refine ⟨by rw [Ct.kill_st, a2]; omega, ?_, g4, z.kill (atR N.r), ?_, by rw [nest_kill]; exact g7⟩
                · rw [Ct.kill_cell]
                  have := a4 0 q.1 (by omega) (by omega)
                  rw [Nat.add_zero] at this
                  rw [this, g3]
                  have : atR N.r (rt q.2) = false := beq_ne g4
                  simp [AV.kill, this]
                · show ((s.kill (atR N.r)).setB N.r _).rblk q.2 = _
                  rw [St.rblk_setB, if_neg (Ne.symm g4), rblk_kill, g6]; rfl)
              exact ⟨v, w', γ2, by rw [ex']; exact r1, h2⟩
          · cases hap
      · cases hap
    · have ex' : vx = .slice none 0 0 := by simpa [Reps] using hx1
      cases hbc : Nat.beq c2.st e.size with
      | false => rw [hbc] at hap; cases hap
      | true =>
        rw [hbc] at hap
        simp only [cond_true] at hap
        split at hap
        · rename_i hbl
          cases hap
          exact fresh none ex' hc2 (Nat.eq_of_beq_eq_true hbc) hbl hp
        · cases hap
    · obtain ⟨A, ex⟩ := hx1
      have ex' : vx = .slice A 0 0 := by simpa using ex
      cases hbc : Nat.beq c2.st e.size with
      | false => rw [hbc] at hap; cases hap
      | true =>
        rw [hbc] at hap
        simp only [cond_true] at hap
        split at hap
        · rename_i hbl
          cases hap
          exact fresh A ex' hc2 (Nat.eq_of_beq_eq_true hbc) hbl hp
        · cases hap
    · cases hap
  · cases hap
/-! ### a slice in a row's cell is taken out -/
def preK (R i j : Nat) (D : Nm) : Bool := Nat.beq D.r R && (match D.p with | [] => false | q :: _ => Nat.beq q.1 i && Nat.beq q.2 j)
/-- The slice in the cell i, j of the row R goes by the name L; the cell tells nothing more. -/
def St.tk (s : St) (R i j L : Nat) : St :=
  match s.rblk R with
  | some (.row e c) =>
    (match (c.cell i j).sub with
     | some y => ((s.kill (preK R i j)).setB R (some (.row e ((c.kill (preK R i j)).put i j .top)))).setB L (some (y.kill (preK R i j)))
     | none => s)
  | _ => s
def tkN (R i j L : Nat) (D : Nm) : Nm := if D.r = L then ⟨R, (i, j) :: D.p⟩ else D
theorem preK_rt (R i j L : Nat) : preK R i j (rt L) = false := by simp [preK]
theorem preK_ne {R i j : Nat} {D : Nm} (h : D.r ≠ R) : preK R i j D = false := by simp [preK, beq_ne h]
theorem preK_cons {R i j k l : Nat} {p : List (Nat × Nat)} : preK R i j ⟨R, (k, l) :: p⟩ = false ↔ ¬ (k = i ∧ l = j) := by
  unfold preK
  simp only [Nat.beq_refl, Bool.true_and]
  constructor
  · rintro h ⟨rfl, rfl⟩; simp at h
  · intro h
    cases hb : (Nat.beq k i && Nat.beq l j) with
    | false => rfl
    | true => simp only [Bool.and_eq_true] at hb; exact absurd ⟨Nat.eq_of_beq_eq_true hb.1, Nat.eq_of_beq_eq_true hb.2⟩ h
theorem BlkOk.putTop {own : Bool → Nat → Prop} {N : Nm} {e : TypeId} {c : Ct} {i j : Nat} (h : BlkOk w own γ N (.row e c)) : BlkOk w own γ N (.row e (c.put i j .top)) := by
  rcases h with ⟨h0, A, e1⟩ | ⟨bk, o, cap, us, e1, hp, hc, h1, h2, h3⟩
  · exact .inl ⟨h0, A, e1⟩
  · refine .inr ⟨bk, o, cap, us, e1, hp, hc, h1, h2, fun k l hk hl => ?_⟩
    obtain ⟨u, h4, ho, h5⟩ := h3 k l hk hl
    refine ⟨u, h4, ho, ?_⟩
    by_cases hij : k = i ∧ l = j
    · obtain ⟨rfl, rfl⟩ := hij
      rw [put_eq]; exact ⟨u, rfl⟩
    · rw [put_ne _ _ hij]; exact h5
theorem Sim.tk (h : Sim E s act w γ) {R i j L : Nat} {e : TypeId} {c : Ct} {y : Blk} (hR : s.rblk R = some (.row e c)) (hi : i < c.len) (hj : j < c.st) (hy : (c.cell i j).sub = some y) (hL : s.rblk L = none) (hlow : low ≤ L) :
    Sim E (s.tk R i j L) act w (fun D => γ (tkN R i j L D)) ∧
    ∀ a vs, Reps w (E.ow (s.own γ)) γ a .o vs → s.live a → Reps w (E.ow ((s.tk R i j L).own (fun D => γ (tkN R i j L D)))) (fun D => γ (tkN R i j L D)) (a.kill (preK R i j)) .o vs ∧ (s.tk R i j L).live (a.kill (preK R i j)) := by
  have hne : L ≠ R := fun e => by rw [e, hR] at hL; cases hL
  have hRat : s.at (rt R) (.row e c) := at_root.2 hR
  have es : s.tk R i j L = ((s.kill (preK R i j)).setB R (some (.row e ((c.kill (preK R i j)).put i j .top)))).setB L (some (y.kill (preK R i j))) := by
    unfold St.tk; rw [hR]; simp only [hy]
  generalize hQ : preK R i j = Q at es
  have q1 : ∀ L, Q (rt L) = false := fun L => by rw [← hQ]; exact preK_rt R i j L
  have q2 : ∀ {D : Nm}, D.r ≠ R → Q D = false := fun hD => by rw [← hQ]; exact preK_ne hD
  have q3 : ∀ {k l : Nat} {p : List (Nat × Nat)}, Q ⟨R, (k, l) :: p⟩ = false ↔ ¬ (k = i ∧ l = j) := fun {k l p} => by rw [← hQ]; exact preK_cons
  have gL : ∀ r, tkN R i j L ⟨L, r⟩ = ⟨R, (i, j) :: r⟩ := fun r => if_pos rfl
  have gm : ∀ {D : Nm}, D.r ≠ L → tkN R i j L D = D := fun hD => if_neg hD
  -- what lies where
  have cs : ∀ {D z}, (s.tk R i j L).at D z → (∃ r z0, D = ⟨L, r⟩ ∧ s.at ⟨R, (i, j) :: r⟩ z0 ∧ z = z0.kill Q) ∨ (D = rt R ∧ z = .row e ((c.kill Q).put i j .top)) ∨ (D.r ≠ L ∧ Q D = false ∧ ∃ z0, s.at D z0 ∧ z = z0.kill Q) := by
    intro D z hD
    rw [es] at hD
    by_cases e1 : L = D.r
    · obtain ⟨r, p⟩ := D
      cases e1
      obtain ⟨z0, h5, h6⟩ := at_kill.1 (at_setB_eq.1 hD)
      exact .inl ⟨p, z0, rfl, ⟨_, hR, e, c, y, rfl, hi, hj, hy, h5⟩, h6⟩
    · rw [at_setB_ne e1] at hD
      by_cases e2 : R = D.r
      · obtain ⟨r, p⟩ := D
        have e2 : R = r := e2
        subst e2
        have h1 := at_setB_eq.1 hD
        cases p with
        | nil => cases h1; exact .inr (.inl ⟨rfl, rfl⟩)
        | cons q p =>
          obtain ⟨k, l⟩ := q
          obtain ⟨e', c', y', he, k1, k2, k3, k4⟩ := h1
          cases he
          by_cases hij : k = i ∧ l = j
          · obtain ⟨rfl, rfl⟩ := hij
            rw [put_eq] at k3; cases k3
          · rw [put_ne _ _ hij] at k3
            have h5 : (s.kill Q).at ⟨R, (k, l) :: p⟩ z := by
              refine ⟨(Blk.row e c).kill Q, by rw [rblk_kill, hR]; rfl, e, c.kill Q, y', rfl, k1, k2, k3, k4⟩
            obtain ⟨z0, h6, h7⟩ := of_kill.1 h5
            exact .inr (.inr ⟨fun e => hne e.symm, q3.2 hij, z0, h6, h7⟩)
      · rw [at_setB_ne e2] at hD
        obtain ⟨z0, h6, h7⟩ := of_kill.1 hD
        exact .inr (.inr ⟨fun e => e1 e.symm, q2 (fun e => e2 e.symm), z0, h6, h7⟩)
  have lv : ∀ {D}, s.lv D → Q D = false → (s.tk R i j L).lv D := by
    rintro D ⟨z, hz⟩ hD
    rw [es]
    have e1 : L ≠ D.r := fun e => not_lv hL ⟨z, hz⟩ e.symm
    by_cases e2 : R = D.r
    · obtain ⟨r, p⟩ := D
      have e2 : R = r := e2
      subst e2
      cases p with
      | nil => exact ⟨_, (at_setB_ne e1).2 (at_setB_eq.2 rfl)⟩
      | cons q p =>
        obtain ⟨k, l⟩ := q
        obtain ⟨x, hx, e', c', y', he, k1, k2, k3, k4⟩ := hz
        rw [show s.rblk R = some x from hx] at hR
        cases hR
        cases he
        refine ⟨z.kill Q, (at_setB_ne e1).2 (at_setB_eq.2 ⟨e, _, y'.kill Q, rfl, ?_, ?_, ?_, at_kill.2 ⟨z, k4, rfl⟩⟩)⟩
        · show k < (c.kill Q).len; rw [Ct.kill_len]; exact k1
        · show l < (c.kill Q).st; rw [Ct.kill_st]; exact k2
        · rw [put_ne _ _ (q3.1 hD), Ct.kill_cell, sub_kill, k3]; rfl
    · exact ⟨_, (at_setB_ne e1).2 ((at_setB_ne e2).2 (of_kill.2 ⟨z, hz, rfl⟩))⟩
  have nL : ∀ {D : Nm}, s.lv D → D.r ≠ L := fun hD => not_lv hL hD
  have back : ∀ {D z}, (s.tk R i j L).at D z → (∃ z0, s.at (tkN R i j L D) z0) ∧ (D.r = L ∨ (D.r ≠ L ∧ Q D = false)) := fun {D z} hD => by
    rcases cs hD with ⟨r, z0, rfl, h1, _⟩ | ⟨rfl, _⟩ | ⟨h1, h2, z0, h3, _⟩
    · exact ⟨⟨z0, by rw [gL]; exact h1⟩, .inl rfl⟩
    · exact ⟨⟨_, by rw [gm (fun e => hne e.symm)]; exact hRat⟩, .inr ⟨fun e => hne e.symm, q1 R⟩⟩
    · exact ⟨⟨z0, by rw [gm h1]; exact h3⟩, .inr ⟨h1, h2⟩⟩
  have pv : ∀ D x', (s.tk R i j L).at D x' → ∀ bk, blkOf (γ (tkN R i j L D)) = some bk → (w.heap.size ≤ bk ∧ bk < w.heap.size) ∨ s.own γ bk := fun D z hD bk hb => by
    obtain ⟨⟨z0, h1⟩, _⟩ := back hD
    exact .inr ⟨_, z0, h1, hb⟩
  have hk0 := h.kill Q
  have gk : ∀ {a : AV}, s.live a → ∀ M, (a.kill Q).has M → γ (tkN R i j L M) = γ M := fun hl M hM => by rw [gm (nL (hl M (has_kill hM).1))]
  have hkeep := step_keeps (E := E) (s' := s.tk R i j L) (γ' := fun D => γ (tkN R i j L D)) (Step.same (s.own γ) w) pv
  refine ⟨h.build (Step.same _ w) (by rw [es]; exact h.size) h.defers pv (fun D M u v bk hD hM hb hc' => ?_) (fun hk t => ?_) (fun hk D z hD => ?_) ⟨fun t M hM => ?_, fun M z D hM hD => ?_⟩ (fun L' hL' hl => ?_), fun a vs ha hl => ?_⟩
  · obtain ⟨⟨z0, h1⟩, h2⟩ := back hD
    obtain ⟨⟨z1, h3⟩, h4⟩ := back hM
    have e1 := h.inj _ _ _ _ bk h1 h3 hb hc'
    obtain ⟨r, p⟩ := D
    obtain ⟨r', p'⟩ := M
    rcases h2 with h2 | ⟨h2, h2'⟩ <;> rcases h4 with h4 | ⟨h4, h4'⟩
    · cases h2; cases h4
      rw [gL, gL] at e1
      cases e1; rfl
    · cases h2
      rw [gL, gm h4] at e1
      rw [← e1] at h4'
      exact absurd ⟨rfl, rfl⟩ (q3.1 h4')
    · cases h4
      rw [gL, gm h2] at e1
      rw [e1] at h2'
      exact absurd ⟨rfl, rfl⟩ (q3.1 h2')
    · rw [gm h2, gm h4] at e1; exact e1
  · have es2 : (s.tk R i j L).slot t = (s.kill Q).slot t := by rw [es]; rfl
    rw [es2]
    have := hk0.slots t
    rw [own_kill] at this
    rw [slot_kill] at this ⊢
    exact (this.keep hk).gam (fun _ M hM => gk (h.wf.slot t) M hM)
  · have gkb : ∀ {N : Nm} {z0 : Blk}, s.at N z0 → ∀ M, (z0.kill Q).has M → γ (tkN R i j L M) = γ M := fun hN M hM => by rw [gm (nL (h.wf.blk _ _ M hN (hasB_kill hM).1))]
    rcases cs hD with ⟨r, z0, rfl, h1, rfl⟩ | ⟨rfl, rfl⟩ | ⟨h1, h2, z0, h3, rfl⟩
    · exact (h.blks _ _ h1).kill.keep hk (by show γ (tkN R i j L ⟨L, r⟩) = _; rw [gL]) (gkb h1) (fun _ _ i' j' _ _ _ _ => by show γ (tkN R i j L ⟨L, r ++ [(i', j')]⟩) = _; rw [gL]; rfl) (fun _ _ => rfl)
    · have h5 := (h.blks _ _ hRat).kill (Q := Q)
      exact BlkOk.putTop (h5.keep hk (by show γ (tkN R i j L (rt R)) = _; rw [gm (fun e => hne e.symm)]) (gkb hRat) (fun _ _ i' j' _ _ _ _ => by show γ (tkN R i j L ((rt R).kid i' j')) = _; rw [gm (fun e => hne e.symm)]) (fun _ _ => rfl))
    · exact (h.blks _ _ h3).kill.keep hk (by show γ (tkN R i j L D) = _; rw [gm h1]) (gkb h3) (fun _ _ i' j' _ _ _ _ => by show γ (tkN R i j L (D.kid i' j')) = _; rw [gm (by rw [kid_r]; exact h1)]) (fun _ _ => rfl)
  · have es2 : (s.tk R i j L).slot t = (s.kill Q).slot t := by rw [es]; rfl
    rw [es2, slot_kill] at hM
    exact lv (h.wf.slot t M (has_kill hM).1) (has_kill hM).2
  · rcases cs hM with ⟨r, z0, rfl, h1, rfl⟩ | ⟨rfl, rfl⟩ | ⟨h1, h2, z0, h3, rfl⟩
    · exact lv (h.wf.blk _ _ D h1 (hasB_kill hD).1) (hasB_kill hD).2
    · obtain ⟨k, l, hk, hl, h5⟩ := hD
      by_cases hij : k = i ∧ l = j
      · obtain ⟨rfl, rfl⟩ := hij
        rw [put_eq] at h5; exact h5.elim
      · rw [put_ne _ _ hij] at h5
        have h6 : ((Blk.row e c).kill Q).has D := ⟨k, l, hk, hl, h5⟩
        exact lv (h.wf.blk _ _ D hRat (hasB_kill h6).1) (hasB_kill h6).2
    · exact lv (h.wf.blk _ _ D h3 (hasB_kill hD).1) (hasB_kill hD).2
  · have hLL : L' ≠ L := fun e => by omega
    have e1 : tkN R i j L (rt L') = rt L' := gm hLL
    show γ (tkN R i j L (rt L')) = _
    rw [e1]
    obtain ⟨z, hz⟩ := hl
    obtain ⟨⟨z0, h1⟩, _⟩ := back hz
    rw [e1] at h1
    exact h.hd L' hL' ⟨z0, h1⟩
  · exact ⟨(ha.kill.keep hkeep).gam (fun _ M hM => gk hl M hM), fun M hM => lv (hl M (has_kill hM).1) (has_kill hM).2⟩
theorem tk_rblk {R i j L : Nat} {e : TypeId} {c : Ct} {y : Blk} (hR : s.rblk R = some (.row e c)) (hy : (c.cell i j).sub = some y) : (s.tk R i j L).rblk L = some (y.kill (preK R i j)) := by
  unfold St.tk; rw [hR]; simp only [hy]
  rw [St.rblk_setB, if_pos rfl]
theorem tk_n {R i j L : Nat} : (s.tk R i j L).n = s.n := by
  unfold St.tk
  split
  · split <;> rfl
  · rfl
/-- Slots forgotten alone. -/
def St.slk (s : St) (Q : Nm → Bool) : St := { s with slots := s.slots.map fun p => (p.1, p.2.kill Q) }
theorem Sim.slk (h : Sim E s act w γ) (Q : Nm → Bool) : Sim E (s.slk Q) act w γ := by
  have e : ∀ t, (s.slk Q).slot t = (s.slot t).kill Q := fun t => slot_kill (Q := Q) s t
  refine ⟨h.size, h.defers, fun t => ?_, h.blks, h.mine, h.inj, ⟨fun t N hN => ?_, h.wf.blk⟩, h.hd, h.fr⟩
  · rw [e]; exact (h.slots t).kill
  · rw [e] at hN; exact h.wf.slot t N (has_kill hN).1
/-- append, to a slice in a row's cell, too: it is taken out, and goes by the name L. -/
def appX (s : St) (e size L d : Nat) (x y : AV) : SRes :=
  match x with
  | .os N =>
    (match N.p with
     | [q] =>
       (match s.rblk N.r, s.rblk L with
        | some (.row _ c), none => (match (c.cell q.1 q.2).sub with | some _ => appA ((s.slk (kids N.r)).tk N.r q.1 q.2 L) e size L d (.os (rt L)) ((y.kill (kids N.r)).kill (preK N.r q.1 q.2)) | none => .bad)
        | _, _ => .bad)
     | _ => appA s e size L d x y)
  | _ => appA s e size L d x y
theorem app_sound (h : Sim E s act w γ) {t : Nat} {i e : TyI} (hi : tyChk P t i = true) (he : tyChk P i.elem e = true) (hne : i.elem ≠ 0) (hsz : 0 < e.size) (hby : e.bytes ≤ 256) (ty : TypeId) {L d : Nat} (hlow : low ≤ L) (hd : d < s.n) {x y : Operand} {p : Prop} {s' : St}
    (hap : appX s i.elem e.size L d (s.ev x) (s.ev y) = .ok p s') (hp : p) : ∃ v w' γ', (Builtin.append_ #[t, t] ty #[act.eval x, act.eval y]).run P w = .ok v w' ∧ Sim E s' (act.put (some d) v) w' γ' := by
  obtain ⟨hx1, hx2⟩ := ev_sound h x
  obtain ⟨hy1, hy2⟩ := ev_sound h y
  generalize s.ev x = a at hx1 hx2 hap
  generalize s.ev y = b at hy1 hy2 hap
  generalize act.eval x = vx at hx1
  generalize act.eval y = vy at hy1
  unfold appX at hap
  split at hap
  · rename_i N
    split at hap
    · rename_i q hNp
      obtain ⟨ix, jx⟩ := q
      split at hap
      · rename_i e' c hR hL
        split at hap
        · rename_i y0 hy0
          obtain ⟨R, pp⟩ := N
          simp only at hNp hR hap
          subst hNp
          obtain ⟨z, hz⟩ := hx2 ⟨R, [(ix, jx)]⟩ rfl
          obtain ⟨x1, hx3, e1, c1, y1, he1, k1, k2, k3, k4⟩ := hz
          rw [show s.rblk R = some x1 from hx3] at hR
          cases hR
          cases he1
          obtain ⟨hS, hRp⟩ := (h.slk (kids R)).tk hx3 k1 k2 hy0 hL hlow
          obtain ⟨g1, g2⟩ := hRp (b.kill (kids R)) _ hy1.kill (fun M hM => hy2 M (has_kill hM).1)
          refine app_soundA hS hi he hne hsz hby ty hlow (by rw [tk_n]; exact hd) (x := .os (rt L)) ⟨rfl, ?_⟩ (fun M hM => (show rt L = M from hM) ▸ ⟨_, at_root.2 (tk_rblk (s := s.slk (kids R)) hx3 hy0)⟩) g1 g2 hap hp
          obtain ⟨_, ex⟩ := hx1
          rw [ex]
          show [γ ⟨R, [(ix, jx)]⟩] = [γ (tkN R ix jx L (rt L))]
          unfold tkN
          rw [if_pos rfl]
        · cases hap
      · cases hap
    · exact app_soundA h hi he hne hsz hby ty hlow hd hx1 hx2 hy1 hy2 hap hp
  · exact app_soundA h hi he hne hsz hby ty hlow hd hx1 hx2 hy1 hy2 hap hp
end
end Go.Proofs.YtaopjdeigpiejaaDoor
namespace Go.Proofs.YtaopjdeigpiejaaDoor
open Go.RowKit
set_option linter.unusedVariables false

def AV.force (a : AV) (f : AV → Prop) : Prop :=
  match a with
  | .int k n => f (.int k n)
  | .b x => f (.b x)
  | .tt => f .tt
  | .ff => f .ff
  | .s x => f (.s x)
  | .c v => f (.c v)
  | .top => f .top
  | .nl => f .nl
  | .e0 => f .e0
  | .nil => f .nil
  | .cons a l => f (.cons a l)
  | .agg l => f (.agg l)
  | .tup l => f (.tup l)
  | .fn g l => f (.fn g l)
  | .op N j => f (.op N j)
  | .om N => f (.om N)
  | .os N => f (.os N)
  | .oe N st k j => f (.oe N st k j)
  | .ri g q xs => f (.ri g q xs)
  | .rs g n st cell => f (.rs g n st cell)
  | .rp g n st cell k j => f (.rp g n st cell k j)
  | .oi e k xs => f (.oi e k xs)
  | .ow e n st cell => f (.ow e n st cell)
def Blk.force (x : Blk) (f : Blk → Prop) : Prop :=
  match x with
  | .box l => l.force fun l => f (.box l)
  | .row e c => (match c with | .ints k xs => f (.row e (.ints k xs)) | .bools xs => f (.row e (.bools xs)) | .tab n st cell => f (.row e (.tab n st cell)))
  | .mp t m => f (.mp t m)
theorem force_eq (a : AV) (f : AV → Prop) : a.force f = f a := by cases a <;> rfl
theorem forceX_eq (x : Blk) (f : Blk → Prop) : x.force f = f x := by
  cases x with
  | box l => exact force_eq l (fun l => f (.box l))
  | row e c => cases c <;> rfl
  | mp t m => rfl
/-- A state written out: what its entries say is looked up once. -/
def AV.forceD : AV → (AV → Prop) → Prop
  | .cons a l, f => a.forceD fun a => l.forceD fun l => f (.cons a l)
  | .agg l, f => l.forceD fun l => f (.agg l)
  | .tup l, f => l.forceD fun l => f (.tup l)
  | .fn g l, f => l.forceD fun l => f (.fn g l)
  | .int k n, f => f (.int k n)
  | .b x, f => f (.b x)
  | .tt, f => f .tt
  | .ff, f => f .ff
  | .s x, f => f (.s x)
  | .c v, f => f (.c v)
  | .top, f => f .top
  | .nl, f => f .nl
  | .e0, f => f .e0
  | .nil, f => f .nil
  | .op N j, f => f (.op N j)
  | .om N, f => f (.om N)
  | .os N, f => f (.os N)
  | .oe N st k j, f => f (.oe N st k j)
  | .ri g q xs, f => f (.ri g q xs)
  | .rs g n st cell, f => f (.rs g n st cell)
  | .rp g n st cell k j, f => f (.rp g n st cell k j)
  | .oi e k xs, f => f (.oi e k xs)
  | .ow e n st cell, f => f (.ow e n st cell)
theorem forceD_eq : ∀ (a : AV) (f : AV → Prop), a.forceD f = f a := by
  intro a
  induction a with
  | cons a l iha ihl => intro f; unfold AV.forceD; rw [iha, ihl]
  | agg l ih => intro f; unfold AV.forceD; rw [ih]
  | tup l ih => intro f; unfold AV.forceD; rw [ih]
  | fn g l ih => intro f; unfold AV.forceD; rw [ih]
  | _ => intro f; rfl
def Blk.forceD (x : Blk) (f : Blk → Prop) : Prop :=
  match x with
  | .box l => l.forceD fun l => f (.box l)
  | .row e c => (match c with | .ints k xs => f (.row e (.ints k xs)) | .bools xs => f (.row e (.bools xs)) | .tab n st cell => f (.row e (.tab n st cell)))
  | .mp t m => (match m with | .ints k es => f (.mp t (.ints k es)) | .bools es => f (.mp t (.bools es)))
theorem forceXD_eq (x : Blk) (f : Blk → Prop) : x.forceD f = f x := by
  cases x with
  | box l => exact forceD_eq l (fun l => f (.box l))
  | row e c => cases c <;> rfl
  | mp t m => cases m <;> rfl
def forceSl : List (Nat × AV) → (List (Nat × AV) → Prop) → Prop
  | [], f => f []
  | (k, a) :: l, f => a.forceD fun a => forceSl l fun l => f ((k, a) :: l)
def forceBl : List (Nat × Option Blk) → (List (Nat × Option Blk) → Prop) → Prop
  | [], f => f []
  | (k, none) :: l, f => forceBl l fun l => f ((k, none) :: l)
  | (k, some x) :: l, f => x.forceD fun x => forceBl l fun l => f ((k, some x) :: l)
def natF (n : Nat) (f : Nat → Prop) : Prop := match n with | 0 => f 0 | m + 1 => f (m + 1)
def St.force (s : St) (f : St → Prop) : Prop := forceSl s.slots fun l => forceBl s.store fun b => natF s.n fun n => f ⟨l, b, n⟩
theorem forceSl_eq : ∀ (l : List (Nat × AV)) (f : List (Nat × AV) → Prop), forceSl l f = f l := by
  intro l
  induction l with
  | nil => intro f; rfl
  | cons p l ih => intro f; obtain ⟨k, a⟩ := p; unfold forceSl; rw [forceD_eq, ih]
theorem forceBl_eq : ∀ (l : List (Nat × Option Blk)) (f : List (Nat × Option Blk) → Prop), forceBl l f = f l := by
  intro l
  induction l with
  | nil => intro f; rfl
  | cons p l ih =>
    intro f; obtain ⟨k, a⟩ := p
    cases a with
    | none => unfold forceBl; rw [ih]
    | some x => unfold forceBl; rw [forceXD_eq, ih]
theorem natF_eq (n : Nat) (f : Nat → Prop) : natF n f = f n := by cases n <;> rfl
theorem forceS_eq (s : St) (f : St → Prop) : s.force f = f s := by unfold St.force; rw [forceSl_eq, forceBl_eq, natF_eq]
/-- Operations behind which the state is written out. -/
def heavyB : Op → Bool
  | .store _ _ _ => true
  | .mapUpdate _ _ _ _ => true
  | .insert _ _ _ _ => true
  | .call c => (match c.callee with | .builtin .append => true | .value _ => true | _ => false)
  | _ => false
def fK (o : Oper) (K : St → Prop) (s : St) : Prop := bif heavyB o.op then s.force K else K s
theorem fK_eq (o : Oper) (K : St → Prop) : fK o K = K := by
  funext s
  unfold fK
  cases heavyB o.op with
  | true => exact forceS_eq s K
  | false => rfl
/-- What is still to be walked. -/
structure Nx (p : Prop) : Prop where
  out : p
/-- A bool is decided where it comes up. -/
def AV.res : AV → AV
  | .b x => bif x then .tt else .ff
  | a => a
def AV.forceB (a : AV) (f : AV → Prop) : Prop :=
  match a with
  | .b x => (x = true → Nx (f .tt)) ∧ (x = false → Nx (f .ff))
  | a => a.force f
theorem forceB_iff {a : AV} {f : AV → Prop} (h : a.forceB f) : f a.res := by
  cases a with
  | b x =>
    cases x with
    | true => exact (h.1 rfl).out
    | false => exact (h.2 rfl).out
  | _ => exact h
theorem Reps.res {w : World} {own : Bool → Nat → Prop} {γ : Nm → Value} {a : AV} {m : Md} {vs : List Value} (h : Reps w own γ a m vs) : Reps w own γ a.res m vs := by
  cases a with
  | b x => cases x <;> exact h
  | _ => exact h
theorem has_res {a : AV} {L : Nm} (h : a.res.has L) : a.has L := by
  cases a with
  | b x => cases x <;> exact h
  | _ => exact h

/-- Operations that write, and calls of the functions in sf, to which memory may be lent. -/
def solidB (sf : List Nat) (o : Oper) : Bool :=
  match o.dst with
  | none => true
  | some _ => (match o.op with | .call c => (match c.callee with | .builtin .append => true | .value (.func f) => sf.contains f | _ => false) | _ => false)
def allow (sf : Option (List Nat)) (o : Oper) (ns : List Nm) : Bool := ns.isEmpty || (match sf with | none => true | some l => solidB l o)

def appVC (τ : List (Nat × TyI)) (s : St) (d : Nat) (c : Call) (K : St → Prop) : Prop :=
  match c.callee, c.args.toList, c.argTypes.toList with
  | .builtin .append, [x, y], [t, t'] =>
    bif Nat.beq t' t then
      (match ty? τ t with
       | some i =>
         (match ty? τ i.elem with
          | some e => bif Nat.blt 0 i.elem && Nat.blt 0 e.size && Nat.ble e.bytes 256 then (match appX s i.elem e.size (nm d) d (s.ev x) (s.ev y) with | .ok p s' => p ∧ Nx (K s') | .bad => False) else False
          | none => False)
       | none => False)
    else False
  | _, _, _ => False
def stoVC (s : St) (size : Nat) (a x : AV) (K : St → Prop) : Prop :=
  match a with
  | .op _ _ => (match stoA s size a x with | .ok _ s' => K s' | .bad => False)
  | _ => (match stoA s size a x with | .ok p s' => p ∧ Nx (K s') | .bad => False)
def trimVC (τ : List (Nat × TyI)) (s : St) (d t : Nat) (x lo : Operand) (K : St → Prop) : Prop :=
  match ty? τ t with
  | some i =>
    (match ty? τ i.elem with
     | some e => bif Nat.blt 0 i.elem && Nat.beq e.size 1 then (match trimA s i.elem d (s.ev x) (s.ev lo) with | .ok p s' => p ∧ Nx (K s') | .bad => False) else False
     | none => False)
  | none => False
def cutVC (τ : List (Nat × TyI)) (s : St) (d t : Nat) (x hi : Operand) (K : St → Prop) : Prop :=
  match ty? τ t with
  | some i =>
    (match ty? τ i.elem with
     | some _ => bif Nat.blt 0 i.elem then (match cutA s i.elem d (s.ev x) (s.ev hi) with | .ok p s' => p ∧ Nx (K s') | .bad => False) else False
     | none => False)
  | none => False
def mupVC (τ : List (Nat × TyI)) (s : St) (t : Nat) (m k x : Operand) (K : St → Prop) : Prop :=
  match ty? τ t with
  | some i => (match i.mp with | some (kt, e) => (match ty? τ kt with | some ki => bif decide (ki.ik = some .i64) then (match mupA s t (s.ev m) (s.ev k) (s.ev x) with | .ok _ s' => K s' | .bad => False) else False | none => False) | none => False)
  | none => False
def ndB : List Nm → Bool
  | [] => true
  | N :: ns => (ns.all fun M => !Nat.beq M.r N.r) && ndB ns
def nestsB (lk : Nat → Option Blk) : Nat → List Nm → Bool
  | _, [] => true
  | i, N :: ns => (match lk i with | some y => N.p.isEmpty || y.nest | none => N.p.isEmpty) && nestsB lk (i + 1) ns
def callB (s : St) (ns : List Nm) (d : Nat) (σ : List (Nat × Blk)) : Bool :=
  ndB ns && Nat.ble ns.length low && (σ.all fun p => Nat.blt p.1 ns.length || (Nat.ble low p.1 && (s.rblk (p.1 + d * 16)).isNone)) && nestsB (lkx σ) 0 ns
def callVC (P : Program) (sf : Option (List Nat)) (o : Oper) (s : St) (d f : Nat) (args : AV) (K : AV → St → Prop) : Prop :=
  ∃ nw ns a0 σ0 r σ, Fn P f nw a0 σ0 r σ ∧ (callB s ns d σ && allow sf o ns) = true ∧ lends s ns nw 0 ns σ0 ∧ arg s ns nw 3 false args a0 ∧ Nx ((r.rn (ren ns d)).forceB fun a => K a (s.after ns d σ))
/-- Is a slice nil? Where it is empty, that is not told. -/
def nilVC (τ : List (Nat × TyI)) (s : St) (d t : Nat) (op : BinOp) (x : AV) (K : St → Prop) : Prop :=
  match ty? τ t with
  | some i =>
    bif Nat.blt 0 i.elem then
      (match op with
       | .eql =>
         (match x with
          | .ri _ _ xs => (xs.length = 0 → Nx (K (s.put d .tt))) ∧ Nx (K (s.put d .ff))
          | .rs _ n _ _ => (n = 0 → Nx (K (s.put d .tt))) ∧ Nx (K (s.put d .ff))
          | .nl => K (s.put d .tt)
          | _ => False)
       | .neq =>
         (match x with
          | .ri _ _ xs => (xs.length = 0 → Nx (K (s.put d .ff))) ∧ Nx (K (s.put d .tt))
          | .rs _ n _ _ => (n = 0 → Nx (K (s.put d .ff))) ∧ Nx (K (s.put d .tt))
          | .nl => K (s.put d .ff)
          | _ => False)
       | _ => False)
    else False
  | none => False
def boolOf : AV → Option Bool
  | .tt => some true
  | .ff => some false
  | _ => none
def sameA (x y : Bool) : AV := bif x then (bif y then .tt else .ff) else (bif y then .ff else .tt)
/-- Two strings. -/
def strVC (s : St) (d : Nat) (op : BinOp) (a b : AV) (K : St → Prop) : Prop :=
  match a, b with
  | .s x, .s y =>
    (match op with
     | .eql => Nx ((AV.b (x.toList == y.toList)).forceB fun r => K (s.put d r))
     | .neq => Nx ((AV.b (!(x.toList == y.toList))).forceB fun r => K (s.put d r))
     | .add => x.size + y.size ≤ 9223372036854775807 ∧ Nx (K (s.put d (.s (x ++ y))))
     | _ => False)
  | _, _ => False
/-- Two bools. -/
def boolVC (P : Program) (s : St) (d t : Nat) (op : BinOp) (a b : AV) (K : St → Prop) : Prop :=
  match boolOf a, boolOf b with
  | some x, some y =>
    (match op with
     | .eql => P.underlying t = some .bool ∧ Nx ((sameA x y).force fun r => K (s.put d r))
     | .neq => P.underlying t = some .bool ∧ Nx ((sameA x (!y)).force fun r => K (s.put d r))
     | _ => False)
  | _, _ => strVC s d op a b K
def binVC (P : Program) (τ : List (Nat × TyI)) (s : St) (d t : Nat) (op : BinOp) (x y : Operand) (K : St → Prop) : Prop :=
  match y with
  | .const (.slice none 0 0) => nilVC τ s d t op (s.ev x) K
  | y => boolVC P s d t op (s.ev x) (s.ev y) K
/-- Bytes of one's own, as a string. -/
def cnvVC (P : Program) (s : St) (d src dst : Nat) (x : Operand) (K : St → Prop) : Prop :=
  match s.ev x with
  | .os N =>
    (match s.blk N with
     | some (.row _ (.ints .u8 xs)) => (∃ e, P.underlying src = some (.slice e) ∧ P.underlying e = some (.int .u8)) ∧ P.underlying dst = some .string ∧ 0 < xs.length ∧ (∀ y ∈ xs, 0 ≤ y ∧ y < 256) ∧ Nx (K (s.put d (.s ⟨(xs.map fun y => UInt8.ofNat y.toNat).toArray⟩)))
     | _ => False)
  | _ => False
def opVC (P : Program) (τ : List (Nat × TyI)) (sf : Option (List Nat)) (o : Oper) (s : St) (K : St → Prop) : Prop :=
  match o.dst with
  | some d =>
    bif Nat.blt d s.n then
      (match q τ (nm d) s o.op with
       | .val a => a.forceB fun a => K (s.put d a)
       | .cond p a => p ∧ Nx (a.forceB fun a => K (s.put d a))
       | .ar k n => (inK k n ∧ Nx (K (s.put d (.int k n)))) ∨ Nx (K (s.put d (.int k (k.wrap n))))
       | .idx m n f => ∃ k : Nat, m = (k : Int) ∧ k < n ∧ Nx ((f k).forceB fun a => K (s.put d a))
       | .split x a b => (x = true → Nx (a.forceB fun a => K (s.put d a))) ∧ (x = false → Nx (b.forceB fun a => K (s.put d a)))
       | .new x a => (match s.rblk (nm d) with | none => x.force fun x => a.forceB fun a => K ((s.setB (nm d) (some x)).put d a) | some _ => False)
       | .mk m c f a => (match s.rblk (nm d) with | none => ∃ n k : Nat, m = (n : Int) ∧ c = (k : Int) ∧ n ≤ k ∧ k ≤ 274877906944 ∧ Nx (a.forceB fun a => K ((s.setB (nm d) (some (f n))).put d a)) | some _ => False)
       | .slc lo hi n f => ∃ l h : Nat, lo.getD 0 = (l : Int) ∧ hi.getD n = (h : Int) ∧ l ≤ h ∧ h ≤ n ∧ Nx ((f l h).forceB fun a => K (s.put d a))
       | .call f args => callVC P sf o s d f args fun a s => K (s.put d a)
       | .bad => (match o.op with | .call c => appVC τ s d c K | .slice t x (some lo) none none => (match sf with | none => trimVC τ s d t x lo K | some _ => False) | .slice t x none (some hi) none => (match sf with | none => cutVC τ s d t x hi K | some _ => False) | .binOp op t x y _ => (match sf with | none => binVC P τ s d t op x y K | some _ => False) | .convert src dst x => (match sf with | none => cnvVC P s d src dst x K | some _ => False) | _ => False))
    else False
  | none =>
    (match o.op with
     | .store t a x => (match ty? τ t with | some i => bif Nat.blt 0 i.size then stoVC s i.size (s.ev a) (s.ev x) K else False | none => False)
     | .mapUpdate t m k x => mupVC τ s t m k x K
     | .insert t m k x => mupVC τ s t m k x K
     | .call c => (match q τ (nm s.n) s (.call c) with | .call f args => callVC P sf o s s.n f args fun _ s => K s | _ => False)
     | _ => False)

/-- An operation that its guard leaves out. -/
def skipVC (o : Oper) (s : St) (K : St → Prop) : Prop := match o.dst with | some d => bif Nat.blt d s.n then K (s.put d (.c (.tuple #[]))) else False | none => K s
def opsVC (P : Program) (τ : List (Nat × TyI)) (sf : Option (List Nat)) (ops : Array Oper) : List Oper → (St → Prop) → St → Prop
  | [], K, s => K s
  | o :: rest, K, s =>
    match o.guard with
    | none => opVC P τ sf o s (fK o (opsVC P τ sf ops rest K))
    | some (j, want) =>
      match (ops[j]?).bind (·.dst) with
      | none => False
      | some dj =>
        match s.slot dj with
        | .tt => bif want then opVC P τ sf o s (fK o (opsVC P τ sf ops rest K)) else skipVC o s (opsVC P τ sf ops rest K)
        | .ff => bif want then skipVC o s (opsVC P τ sf ops rest K) else opVC P τ sf o s (fK o (opsVC P τ sf ops rest K))
        | .c (.tuple _) => skipVC o s (opsVC P τ sf ops rest K)
        | _ => False

section
variable {P : Program} {τ : List (Nat × TyI)} {sf : Option (List Nat)} {E : Ent0} {w : World} {s : St} {a : Act} {γ : Nm → Value}

theorem ndB_spec : ∀ {ns : List Nm}, ndB ns = true → (ns.map Nm.r).Nodup
  | [], _ => List.nodup_nil
  | N :: ns, h => by
    simp only [ndB, Bool.and_eq_true] at h
    rw [List.map_cons, List.nodup_cons]
    refine ⟨fun hm => ?_, ndB_spec h.2⟩
    obtain ⟨M, hM, e⟩ := List.mem_map.1 hm
    have := (List.all_eq_true.1 h.1) M hM
    rw [e, Nat.beq_refl] at this; cases this
theorem nestsB_spec {lk : Nat → Option Blk} : ∀ {ns : List Nm} {i : Nat}, nestsB lk i ns = true → (∀ k N y, ns[k]? = some N → lk (i + k) = some y → N.p ≠ [] → y.nest = true) ∧ ∀ k N, ns[k]? = some N → lk (i + k) = none → N.p = []
  | [], _, _ => ⟨fun k N y h => by simp at h, fun k N h => by simp at h⟩
  | N0 :: ns, i, h => by
    simp only [nestsB, Bool.and_eq_true] at h
    obtain ⟨h1, h2⟩ := nestsB_spec h.2
    refine ⟨fun k N y hN hy hp => ?_, fun k N hN hy => ?_⟩
    · cases k with
      | zero =>
        obtain rfl : N0 = N := by simpa using hN
        have h3 := h.1
        rw [show lk i = some y from hy] at h3
        simp only [Bool.or_eq_true] at h3
        exact h3.resolve_left (fun h4 => hp (by simpa using h4))
      | succ k => exact h1 k N y (by simpa using hN) (by rw [← hy]; congr 1; omega) hp
    · cases k with
      | zero =>
        obtain rfl : N0 = N := by simpa using hN
        have h3 := h.1
        rw [show lk i = none from hy] at h3
        simpa using h3
      | succ k => exact h2 k N (by simpa using hN) (by rw [← hy]; congr 1; omega)
theorem lkx_all {σ : List (Nat × Blk)} {p : Nat → Prop} (h : ∀ q ∈ σ, p q.1) : ∀ L x, lkx σ L = some x → p L := by
  intro L x
  induction σ with
  | nil => intro h1; cases h1
  | cons q σ ih =>
    intro h1
    simp only [lkx] at h1
    cases hb : Nat.beq q.1 L with
    | true => rw [← Nat.eq_of_beq_eq_true hb]; exact h q (by simp)
    | false => rw [hb] at h1; exact ih (fun q' hq' => h q' (by simp [hq'])) h1
theorem callOk_of {ns : List Nm} {d : Nat} {nw : Bool} {args a0 : AV} {σ0 σ : List (Nat × Blk)} (hb : callB s ns d σ = true) (h1 : lends s ns nw 0 ns σ0) (h2 : arg s ns nw 3 false args a0) : CallOk s ns d nw args a0 σ0 σ := by
  unfold callB at hb
  simp only [Bool.and_eq_true] at hb
  obtain ⟨⟨⟨b1, b2⟩, b3⟩, b4⟩ := hb
  obtain ⟨n1, n2⟩ := nestsB_spec b4
  refine ⟨ndB_spec b1, Nat.le_of_ble_eq_true b2, h1, ⟨s, fun _ _ _ e => e, h2⟩, ?_, fun k N y hN hy => n1 k N y hN (by rw [Nat.zero_add]; exact hy), fun k N hN hy => n2 k N hN (by rw [Nat.zero_add]; exact hy)⟩
  refine lkx_all (fun q hq => ?_)
  have := (List.all_eq_true.1 b3) q hq
  simp only [Bool.or_eq_true, Bool.and_eq_true] at this
  rcases this with h3 | ⟨h3, h4⟩
  · exact .inl (by rw [Nat.blt_eq] at h3; exact h3)
  · exact .inr ⟨Nat.le_of_ble_eq_true h3, Option.isNone_iff_eq_none.1 h4⟩

theorem sto_op {size j : Nat} {N : Nm} {x : AV} {p : Prop} {s' : St} (h : stoA s size (.op N j) x = .ok p s') : p := by
  simp only [stoA] at h
  split at h
  · cases hb : (x.flat && Nat.beq x.cells.len size && Nat.ble (j + size) _) with
    | false => rw [hb] at h; cases h
    | true => rw [hb] at h; cases h; trivial
  · cases h
theorem mup_p {t : Nat} {a k x : AV} {p : Prop} {s' : St} (h : mupA s t a k x = .ok p s') : p := by
  unfold mupA cond at h
  repeat' split at h
  all_goals first | (cases h; done) | (cases h; trivial)

theorem run_enter {f : FuncId} {fn : Func} {c : Code} (hf : P.funcs[f]? = some fn) (hname : (fn.name == "runtime.NumGoroutine") = false) (hb : fn.body = some c) (args : Array Value) (w : World) :
    (callFunc f args).run P w = .ok (.enter f args) w := by
  have h1 : fn.name ≠ "runtime.NumGoroutine" := by simpa using hname
  simp [callFunc, hf, h1, hb]
/-- Only a call of a function value is left to a contract. -/
theorem q_call {L g : Nat} {o : Op} {args : AV} (h : q τ L s o = .call g args) : ∃ c f caps, o = .call c ∧ c.callee = .value f ∧ s.ev f = .fn g caps ∧ args = (s.evs c.args.toList).app caps := by
  cases o with
  | call c =>
    simp only [q] at h
    split at h
    · exfalso
      unfold lenA cond at h
      repeat' split at h
      all_goals cases h
    · exfalso
      repeat' split at h
      all_goals cases h
    · exfalso
      repeat' split at h
      all_goals cases h
    · rename_i f hf
      split at h
      · rename_i g' caps he
        cases h
        exact ⟨c, f, caps, rfl, hf, he, rfl⟩
      · cases h
    · cases h
  | _ =>
    exfalso
    unfold q at h
    first
      | (cases h; done)
      | (unfold loadA addA idxA binA notA sliceA slice0A lkA cond at h
         repeat' split at h
         all_goals first | contradiction | (cases h; done))
      | (unfold loadA cond at h
         repeat' split at h
         all_goals first | contradiction | (cases h; done))
      | (unfold addA cond at h
         repeat' split at h
         all_goals first | contradiction | (cases h; done))
      | (unfold idxA cond at h
         repeat' split at h
         all_goals first | contradiction | (cases h; done))
      | (unfold binQ at h
         (try unfold eqlA blA at h)
         (try unfold binA at h)
         (try unfold cond at h)
         repeat' split at h
         all_goals first | contradiction | (cases h; done))
      | (unfold negA notA at h
         repeat' split at h
         all_goals first | contradiction | (cases h; done))
      | (unfold negA at h
         repeat' split at h
         all_goals first | contradiction | (cases h; done))
      | (unfold notA at h
         repeat' split at h
         all_goals first | contradiction | (cases h; done))
      | (unfold sliceA slice0A cond at h
         repeat' split at h
         all_goals first | contradiction | (cases h; done))
      | (unfold lkA cond at h
         repeat' split at h
         all_goals first | contradiction | (cases h; done))
      | (unfold cond at h
         repeat' split at h
         all_goals first | contradiction | (cases h; done))
      | (repeat' split at h
         all_goals first | contradiction | (cases h; done))
end
end Go.Proofs.YtaopjdeigpiejaaDoor
namespace Go.Proofs.YtaopjdeigpiejaaDoor
open Go.RowKit
set_option linter.unusedVariables false

section
variable {P : Program} {τ : List (Nat × TyI)} {sf : Option (List Nat)} {E : Ent0} {w : World} {s : St} {a : Act} {γ : Nm → Value}

theorem put_none (a : Act) (v : Value) : a.put none v = a := rfl
/-- A call. -/
theorem callVC_sound {o : Oper} {d f : Nat} {args : AV} {Q : Exit → Act → World → Prop} {c : Call} {X : Operand} {caps : AV} (ho : o.op = .call c) (hc : c.callee = .value X) (he : s.ev X = .fn f caps) (hargs : args = (s.evs c.args.toList).app caps) (hs : Sim E s a w γ)
    {nw : Bool} {ns : List Nm} {a0 r : AV} {σ0 σ : List (Nat × Blk)} (hF : Fn P f nw a0 σ0 r σ) (hok : CallOk s ns d nw args a0 σ0 σ) {R : Act → World → Prop}
    (fin : ∀ v w' γ', Sim E (s.after ns d σ) a w' γ' → Reps w' (E.ow ((s.after ns d σ).own γ')) γ' (r.rn (ren ns d)) .o [v] → (s.after ns d σ).live (r.rn (ren ns d)) → R (a.put o.dst v) w') : o.wp P a w R Q := by
  obtain ⟨fn, body, e1, e2, e3⟩ := hF.1
  obtain ⟨hr1, hl1⟩ := evs_sound hs c.args.toList
  obtain ⟨hr2, hl2⟩ := ev_sound hs X
  rw [he] at hr2 hl2
  obtain ⟨us, e4, hr3⟩ := hr2
  have e4' : a.eval X = .func (.func f) #[] us.toArray := by simpa using e4
  subst hargs
  have hcall := Fn.call hF hs hok (hr1.app hr3) (fun M hM => (has_app hM).elim (hl1 M) (hl2 M))
  have hrun : (execOp a.eval o).run P w = .ok (.enter f (c.args.toList.map a.eval ++ us).toArray) w := by
    have := run_enter (P := P) e1 e2 e3 ((c.args.toList.map a.eval ++ us).toArray) w
    unfold execOp
    simp only [ho, resolve, hc, Sem.run_bind, Deferred.ofValue, e4', Sem.run_pure, Result.andThen_ok, invoke, Array.empty_append]
    have e5 : c.args.map a.eval ++ us.toArray = (c.args.toList.map a.eval ++ us).toArray := by
      apply Array.ext'
      simp
    rw [e5]
    exact this
  unfold Oper.wp
  rw [hrun]
  refine Calls.mono hcall fun e w' => ?_
  rintro ⟨v, γ', rfl, h2, h3, h4⟩
  exact fin v w' γ' h2 h3 h4

/-- A slice held against nil. -/
theorem nil_run {op : BinOp} {t e : Nat} {X Y : Operand} (ht : P.underlying t = some (.slice e)) (A : Option Addr) (n c : Nat) (hop : op = .eql ∨ op = .neq) :
    (do eqGuard op t X Y (.slice A n c) (.slice none 0 0); binOp op t (.slice A n c) (.slice none 0 0) : Sem Value).run P w = .ok (.bool (bif op == .eql then A.isNone else !A.isNone)) w := by
  rcases hop with rfl | rfl
  · simp [eqGuard, Lib.run_eql_slice_nil w t e A n c 0 0 ht]
  · simp [eqGuard, run_neq_slice_nil_any w t e A n c 0 0 ht]
    rfl
theorem nilVC_sound {o : Oper} {d t : Nat} {op : BinOp} {x : Operand} {t' : Nat} {K : St → Prop} {Q : Exit → Act → World → Prop} (hτ : TyOk P τ) (ho : o.op = .binOp op t x (.const (.slice none 0 0)) t') (hd : o.dst = some d) (hdn : d < s.n) (hs : Sim E s a w γ)
    (h : nilVC τ s d t op (s.ev x) K) : o.wp P a w (fun a' w' => ∃ s', K s' ∧ Den E s' a' w') Q := by
  have fin : ∀ {A : Option Addr} {n c : Nat} {e : Nat} (b : Bool), P.underlying t = some (.slice e) → a.eval x = .slice A n c → (op = .eql ∨ op = .neq) → (bif op == .eql then A.isNone else !A.isNone) = b → K (s.put d (bif b then .tt else .ff)) → o.wp P a w (fun a' w' => ∃ s', K s' ∧ Den E s' a' w') Q := by
    intro A n c e b ht he hop hb hK
    have hr := nil_run (w := w) (X := x) (Y := .const (.slice none 0 0)) ht A n c hop
    have hev : a.eval (.const (.slice none 0 0)) = .slice none 0 0 := rfl
    unfold Oper.wp
    simp only [execOp, ho, he, hev, hr, Sem.run_bind, Result.andThen_ok, Sem.run_pure, Oper.upon]
    show ∃ s', K s' ∧ Den E s' (a.put o.dst (.bool _)) w
    rw [hd, hb]
    exact ⟨_, hK, γ, hs.put hdn (by cases b <;> rfl) (fun M hM => by cases b <;> exact hM.elim)⟩
  have hx := (ev_sound hs x).1
  unfold nilVC at h
  split at h
  · rename_i i hi
    cases hb : Nat.blt 0 i.elem with
    | false => rw [hb] at h; exact h.elim
    | true =>
      rw [hb] at h
      simp only [cond_true] at h
      have ht := tyChk_elem (hτ _ _ hi) (by have := blt_pos hb; omega)
      split at h
      · split at h
        · rename_i he
          rw [he] at hx
          obtain ⟨A, cap, e1, hc, h1⟩ := hx
          have e2 := (List.cons.inj e1).1
          cases A with
          | none =>
            refine fin true ht e2 (.inl rfl) rfl (h.1 (Nat.eq_zero_of_not_pos (fun h0 => by obtain ⟨_, _, h2, _⟩ := h1 h0; cases h2))).out
          | some A => exact fin false ht e2 (.inl rfl) rfl h.2.out
        · rename_i he
          rw [he] at hx
          obtain ⟨A, cap, e1, hc, h1⟩ := hx
          have e2 := (List.cons.inj e1).1
          cases A with
          | none =>
            refine fin true ht e2 (.inl rfl) rfl (h.1 (Nat.eq_zero_of_not_pos (fun h0 => by obtain ⟨_, _, h2, _⟩ := h1 h0; cases h2))).out
          | some A => exact fin false ht e2 (.inl rfl) rfl h.2.out
        · rename_i he
          rw [he] at hx
          have e2 : a.eval x = .slice none 0 0 := by simpa [Reps] using hx
          exact fin true ht e2 (.inl rfl) rfl h
        · exact h.elim
      · split at h
        · rename_i he
          rw [he] at hx
          obtain ⟨A, cap, e1, hc, h1⟩ := hx
          have e2 := (List.cons.inj e1).1
          cases A with
          | none =>
            refine fin false ht e2 (.inr rfl) rfl (h.1 (Nat.eq_zero_of_not_pos (fun h0 => by obtain ⟨_, _, h2, _⟩ := h1 h0; cases h2))).out
          | some A => exact fin true ht e2 (.inr rfl) rfl h.2.out
        · rename_i he
          rw [he] at hx
          obtain ⟨A, cap, e1, hc, h1⟩ := hx
          have e2 := (List.cons.inj e1).1
          cases A with
          | none =>
            refine fin false ht e2 (.inr rfl) rfl (h.1 (Nat.eq_zero_of_not_pos (fun h0 => by obtain ⟨_, _, h2, _⟩ := h1 h0; cases h2))).out
          | some A => exact fin true ht e2 (.inr rfl) rfl h.2.out
        · rename_i he
          rw [he] at hx
          have e2 : a.eval x = .slice none 0 0 := by simpa [Reps] using hx
          exact fin false ht e2 (.inr rfl) rfl h
        · exact h.elim
      · exact h.elim
  · exact h.elim

theorem boolOf_spec {x : AV} {v : Value} {b : Bool} {own : Bool → Nat → Prop} (h : Reps w own γ x .o [v]) (hb : boolOf x = some b) : v = .bool b := by
  unfold boolOf at hb
  split at hb <;> first | (cases hb; simpa [Reps] using h) | cases hb
theorem strVC_sound {o : Oper} {d t : Nat} {op : BinOp} {x y : Operand} {t' : Nat} {K : St → Prop} {Q : Exit → Act → World → Prop} (ho : o.op = .binOp op t x y t') (hd : o.dst = some d) (hdn : d < s.n) (hs : Sim E s a w γ)
    (h : strVC s d op (s.ev x) (s.ev y) K) : o.wp P a w (fun a' w' => ∃ s', K s' ∧ Den E s' a' w') Q := by
  unfold strVC at h
  split at h
  · rename_i b1 b2 e1 e2
    have h1 : a.eval x = .string b1 := by
      have := (ev_sound hs x).1
      rw [e1] at this
      simpa [Reps] using this
    have h2 : a.eval y = .string b2 := by
      have := (ev_sound hs y).1
      rw [e2] at this
      simpa [Reps] using this
    have fin : ∀ (v : Value) (r : AV), (do eqGuard op t x y (.string b1) (.string b2); binOp op t (.string b1) (.string b2) : Sem Value).run P w = .ok v w → Reps w (E.ow (s.own γ)) γ r .o [v] → (∀ M, ¬ r.has M) → K (s.put d r) → o.wp P a w (fun a' w' => ∃ s', K s' ∧ Den E s' a' w') Q := by
      intro v r hr hv hn hK
      unfold Oper.wp
      simp only [execOp, ho, h1, h2, hr, Sem.run_bind, Result.andThen_ok, Sem.run_pure, Oper.upon]
      show ∃ s', K s' ∧ Den E s' (a.put o.dst v) w
      rw [hd]
      exact ⟨_, hK, γ, hs.put hdn hv (fun M hM => (hn M hM).elim)⟩
    have hb : ∀ (b : Bool), (do eqGuard op t x y (.string b1) (.string b2); binOp op t (.string b1) (.string b2) : Sem Value).run P w = .ok (.bool b) w → (AV.b b).forceB (fun r => K (s.put d r)) → o.wp P a w (fun a' w' => ∃ s', K s' ∧ Den E s' a' w') Q := by
      intro b hr hK
      refine fin (.bool b) (AV.b b).res hr (Reps.res (a := .b b) rfl) (fun M hM => (show False from has_res hM)) (forceB_iff hK)
    split at h
    · exact hb _ (by simp [eqGuard_at_string, binOp_string_eql]) h.out
    · exact hb _ (by simp [eqGuard_at_string, binOp_string_neq]) h.out
    · exact fin (.string (b1 ++ b2)) (.s (b1 ++ b2)) (by simp [eqGuard_at_string, binOp_string_add, run_string_add_sum w b1 b2 h.1]) rfl (fun M hM => hM) h.2.out
    · exact h.elim
  · exact h.elim
theorem binVC_sound {o : Oper} {d t : Nat} {op : BinOp} {x y : Operand} {t' : Nat} {K : St → Prop} {Q : Exit → Act → World → Prop} (hτ : TyOk P τ) (ho : o.op = .binOp op t x y t') (hd : o.dst = some d) (hdn : d < s.n) (hs : Sim E s a w γ)
    (h : binVC P τ s d t op x y K) : o.wp P a w (fun a' w' => ∃ s', K s' ∧ Den E s' a' w') Q := by
  unfold binVC at h
  split at h
  · exact nilVC_sound hτ ho hd hdn hs h
  · unfold boolVC at h
    split at h
    · rename_i b1 b2 e1 e2
      have h1 := boolOf_spec (ev_sound hs x).1 e1
      have h2 := boolOf_spec (ev_sound hs y).1 e2
      have fin : ∀ (b : Bool), (do eqGuard op t x y (.bool b1) (.bool b2); binOp op t (.bool b1) (.bool b2) : Sem Value).run P w = .ok (.bool b) w → K (s.put d (bif b then .tt else .ff)) → o.wp P a w (fun a' w' => ∃ s', K s' ∧ Den E s' a' w') Q := by
        intro b hr hK
        unfold Oper.wp
        simp only [execOp, ho, h1, h2, hr, Sem.run_bind, Result.andThen_ok, Sem.run_pure, Oper.upon]
        show ∃ s', K s' ∧ Den E s' (a.put o.dst (.bool _)) w
        rw [hd]
        exact ⟨_, hK, γ, hs.put hdn (by cases b <;> rfl) (fun M hM => by cases b <;> exact hM.elim)⟩
      split at h
      · obtain ⟨ht, ⟨hK⟩⟩ := h
        rw [force_eq] at hK
        refine fin (b1 == b2) (by simp [eqGuard, run_eql_bool w t b1 b2 ht]) ?_
        cases b1 <;> cases b2 <;> exact hK
      · obtain ⟨ht, ⟨hK⟩⟩ := h
        rw [force_eq] at hK
        refine fin (!(b1 == b2)) (by simp [eqGuard, run_neq_bool w t b1 b2 ht]) ?_
        cases b1 <;> cases b2 <;> exact hK
      · exact h.elim
    · exact strVC_sound ho hd hdn hs h

theorem cnvVC_sound {o : Oper} {d src dst : Nat} {x : Operand} {K : St → Prop} {Q : Exit → Act → World → Prop} (ho : o.op = .convert src dst x) (hd : o.dst = some d) (hdn : d < s.n) (hs : Sim E s a w γ)
    (h : cnvVC P s d src dst x K) : o.wp P a w (fun a' w' => ∃ s', K s' ∧ Den E s' a' w') Q := by
  unfold cnvVC at h
  split at h
  · rename_i N ex
    split at h
    · rename_i e xs hNb
      obtain ⟨⟨e', h1, h2⟩, h3, h0, h4, hK⟩ := h
      have hx := ev_sound hs x
      rw [ex] at hx
      obtain ⟨⟨_, ev⟩, hlx⟩ := hx
      have ev' : a.eval x = γ N := by simpa using ev
      have hN := St.lv_at (hlx N rfl) hNb
      have fin : (convert src dst (a.eval x)).run P w = .ok (.string ⟨(xs.map fun y => UInt8.ofNat y.toNat).toArray⟩) w := by
        rw [ev']
        rcases hs.blks N _ hN with ⟨hz, _⟩ | ⟨bk, o1, cap, us, e1, hp, hc, hh, hu, hcell⟩
        · have : xs.length = 0 := hz
          omega
        · rw [e1]
          have hl : (Ct.ints .u8 xs).len = (xs.map fun y => UInt8.ofNat y.toNat).length := by rw [List.length_map]; rfl
          rw [hl]
          refine run_convert_bytes_back w src dst e' ⟨bk, o1, none⟩ cap (xs.map fun y => UInt8.ofNat y.toNat) h1 h2 h3 (fun j hj => ?_)
          rw [List.length_map] at hj
          obtain ⟨u, g1, _, g2⟩ := hcell j 0 hj Nat.one_pos
          have g3 : u = .int .u8 (xs.getD j 0) := by simpa [CellR, Ct.cell, ci, AV.sub, Reps] using g2
          have g4 : us[o1 + j]? = some u := by simpa [Ct.st] using g1
          rw [add_at, cell_heap hh, g4, g3, List.getElem_map]
          have g5 := h4 xs[j] (List.getElem_mem hj)
          have g6 : xs.getD j 0 = xs[j] := by rw [List.getD_eq_getElem?_getD, List.getElem?_eq_getElem hj]; rfl
          rw [g6, UInt8.toNat_ofNat']
          congr 2
          omega
      unfold Oper.wp
      simp only [execOp, ho, fin, Sem.run_bind, Result.andThen_ok, Sem.run_pure, Oper.upon]
      show ∃ s', K s' ∧ Den E s' (a.put o.dst _) w
      rw [hd]
      exact ⟨_, hK.out, γ, hs.put hdn (x := .s _) rfl (fun M hM => hM.elim)⟩
    · exact h.elim
  · exact h.elim
theorem opVC_sound (hτ : TyOk P τ) {o : Oper} {K : St → Prop} {Q : Exit → Act → World → Prop} (h : opVC P τ sf o s K) (hs : Sim E s a w γ) : o.wp P a w (fun a' w' => ∃ s', K s' ∧ Den E s' a' w') Q := by
  have mupd : ∀ {t : Nat} {m k x : Operand}, o.dst = none → execOp a.eval o = (do Instr.mapUpdate t (a.eval m) (a.eval k) (a.eval x); pure .skip) → mupVC τ s t m k x K → o.wp P a w (fun a' w' => ∃ s', K s' ∧ Den E s' a' w') Q := by
    intro t m k x hd he h
    unfold mupVC at h
    split at h
    · rename_i i hi
      split at h
      · rename_i kt et hm
        split at h
        · rename_i ki hki
          cases hb : decide (ki.ik = some .i64) with
          | false => rw [hb] at h; exact h.elim
          | true =>
            rw [hb] at h
            simp only [cond_true] at h
            split at h
            · rename_i p s' hr
              obtain ⟨w', h1, h2⟩ := mup_sound hs (hτ _ _ hi) hm (hτ _ _ hki) (of_decide_eq_true hb) (ev_sound hs m).1 (ev_sound hs m).2 (ev_sound hs k).1 (ev_sound hs x).1 hr
              unfold Oper.wp
              rw [he]
              simp only [Sem.run_bind, h1, Result.andThen_ok, Sem.run_pure, Oper.upon, hd, Act.put]
              exact ⟨s', h, γ, h2⟩
            · exact h.elim
        · exact h.elim
      · exact h.elim
    · exact h.elim
  unfold opVC at h
  cases hd : o.dst with
  | none =>
    rw [hd] at h
    simp only at h
    split at h
    · rename_i t x y ho
      split at h
      · rename_i i hi
        cases hz : Nat.blt 0 i.size with
        | false => rw [hz] at h; exact h.elim
        | true =>
          rw [hz] at h
          simp only [cond_true] at h
          have key : ∀ p s', stoA s i.size (s.ev x) (s.ev y) = .ok p s' → p → K s' → o.wp P a w (fun a' w' => ∃ s', K s' ∧ Den E s' a' w') Q := by
            intro p s' he hp hK
            obtain ⟨w', γ', h1, h2⟩ := store_sound hs (hτ _ _ hi) (ev_sound hs x).1 (ev_sound hs x).2 (ev_sound hs y).1 (ev_sound hs y).2 he hp (blt_pos hz)
            unfold Oper.wp execOp
            simp only [ho, Sem.run_bind, h1, Result.andThen_ok, Sem.run_pure, Oper.upon, hd, Act.put]
            exact ⟨s', hK, γ', h2⟩
          unfold stoVC at h
          split at h
          · split at h
            · rename_i N j heq _ p s' he
              exact key p s' he (sto_op (by rw [← heq]; exact he)) h
            · exact h.elim
          · split at h
            · rename_i p s' he
              exact key p s' he h.1 h.2.out
            · exact h.elim
      · exact h.elim
    · rename_i t m k x ho
      exact mupd hd (by simp only [execOp, ho]) h
    · rename_i t m k x ho
      exact mupd hd (by simp only [execOp, ho]) h
    · rename_i c ho
      split at h
      · rename_i g args hq
        obtain ⟨nw, ns, a0, σ0, r, σ, hF, hcb, hle, har, ⟨hK⟩⟩ := h
        simp only [Bool.and_eq_true] at hcb
        obtain ⟨c', f, caps, ho', hc, hf, hargs⟩ := q_call hq
        cases ho'
        exact callVC_sound ho hc hf hargs hs hF (callOk_of hcb.1 hle har) (fun v w' γ' h2 h3 h4 => ⟨_, forceB_iff hK, γ', by rw [hd]; exact h2⟩)
      · exact h.elim
    · exact h.elim
  | some d =>
    rw [hd] at h
    simp only at h
    cases hb : Nat.blt d s.n with
    | false => rw [hb] at h; exact h.elim
    | true =>
      rw [hb] at h
      simp only [cond_true] at h
      have hdn : d < s.n := blt_pos hb
      have hlow : low ≤ nm d := by unfold nm low; omega
      have quiet' : ∀ {x y : AV} {nb : Option Blk}, Yields (q τ (nm d) s o.op) x nb → (nb = none ∨ s.rblk (nm d) = none) → (∀ {w : World} {own : Bool → Nat → Prop} {γ : Nm → Value} {v : Value}, Reps w own γ x .o [v] → Reps w own γ y .o [v]) → (∀ M, y.has M → x.has M) → K ((s.addB (nm d) nb).put d y) → o.wp P a w (fun a' w' => ∃ s', K s' ∧ Den E s' a' w') Q := by
        intro x y nb hy hL hxy hm hK
        obtain ⟨v, w', γ', h1, h2, h3, h4⟩ := q_sound hτ hs hy (hL.imp id (fun h => ⟨h, hlow⟩))
        unfold Oper.wp
        rw [h1]
        show ∃ s', K s' ∧ Den E s' (a.put o.dst v) w'
        rw [hd]
        exact ⟨_, hK, γ', h2.put (by cases nb <;> exact hdn) (hxy h3) (fun M hM => h4 M (hm M hM))⟩
      have quiet : ∀ {x : AV} {nb : Option Blk}, Yields (q τ (nm d) s o.op) x nb → (nb = none ∨ s.rblk (nm d) = none) → K ((s.addB (nm d) nb).put d x.res) → o.wp P a w (fun a' w' => ∃ s', K s' ∧ Den E s' a' w') Q := fun hy hL hK =>
        quiet' hy hL (fun h => h.res) (fun M hM => has_res hM) hK
      split at h
      · rename_i x hq
        exact quiet (nb := none) (by rw [hq]; exact .val) (.inl rfl) (forceB_iff h)
      · rename_i p x hq
        obtain ⟨h1, ⟨h2⟩⟩ := h
        exact quiet (nb := none) (by rw [hq]; exact .cond h1) (.inl rfl) (forceB_iff h2)
      · rename_i k n hq
        rcases h with ⟨h1, ⟨h2⟩⟩ | h2
        · exact quiet' (nb := none) (by rw [hq]; exact .ari h1) (.inl rfl) (fun h => h) (fun M hM => hM) h2
        · exact quiet' (nb := none) (by rw [hq]; exact .arw) (.inl rfl) (fun h => h) (fun M hM => hM) h2.out
      · rename_i m n f hq
        obtain ⟨k, h1, h2, ⟨h3⟩⟩ := h
        exact quiet (nb := none) (by rw [hq]; exact .idx h1 h2) (.inl rfl) (forceB_iff h3)
      · rename_i x y z hq
        cases hx : x with
        | true => exact quiet (nb := none) (by rw [hq]; exact .splitT hx) (.inl rfl) (forceB_iff (h.1 hx).out)
        | false => exact quiet (nb := none) (by rw [hq]; exact .splitF hx) (.inl rfl) (forceB_iff (h.2 hx).out)
      · rename_i x y hq
        split at h
        · rename_i hbl
          rw [forceX_eq] at h
          exact quiet (nb := some x) (by rw [hq]; exact .new) (.inr hbl) (forceB_iff h)
        · exact h.elim
      · rename_i m c f y hq
        split at h
        · rename_i hbl
          obtain ⟨n, k, h1, h2, h3, h4, ⟨h5⟩⟩ := h
          exact quiet (nb := some (f n)) (by rw [hq]; exact .mk h1 h2 h3 h4) (.inr hbl) (forceB_iff h5)
        · exact h.elim
      · rename_i lo hi n f hq
        obtain ⟨l, h', h1, h2, h3, h4, ⟨h5⟩⟩ := h
        exact quiet (nb := none) (by rw [hq]; exact .slc h1 h2 h3 h4) (.inl rfl) (forceB_iff h5)
      · rename_i g args hq
        obtain ⟨nw, ns, a0, σ0, r, σ, hF, hcb, hle, har, ⟨hK⟩⟩ := h
        simp only [Bool.and_eq_true] at hcb
        obtain ⟨c, f, caps, ho, hc, hf, hargs⟩ := q_call hq
        refine callVC_sound ho hc hf hargs hs hF (callOk_of hcb.1 hle har) (fun v w' γ' h2 h3 h4 => ⟨_, forceB_iff hK, γ', ?_⟩)
        rw [hd]
        exact h2.put (by rw [← h2.size, hs.size]; exact hdn) h3.res (fun M hM => h4 M (has_res hM))
      · split at h
        · rename_i c ho
          unfold appVC at h
          split at h
          · rename_i x y t t' hcal hargs htys
            cases hbt : Nat.beq t' t with
            | false => rw [hbt] at h; exact h.elim
            | true =>
              rw [hbt] at h
              simp only [cond_true] at h
              obtain rfl := Nat.eq_of_beq_eq_true hbt
              split at h
              · rename_i i hi
                split at h
                · rename_i e he
                  cases hbb : (Nat.blt 0 i.elem && Nat.blt 0 e.size && Nat.ble e.bytes 256) with
                  | false => rw [hbb] at h; exact h.elim
                  | true =>
                    rw [hbb] at h
                    simp only [cond_true] at h
                    simp only [Bool.and_eq_true] at hbb
                    obtain ⟨⟨b1, b2⟩, b3⟩ := hbb
                    have hne : i.elem ≠ 0 := by have := blt_pos b1; omega
                    have hca : c.args = #[x, y] := by simpa using congrArg List.toArray hargs
                    have hct : c.argTypes = #[t', t'] := by simpa using congrArg List.toArray htys
                    split at h
                    · rename_i p s' hap
                      obtain ⟨hp, ⟨hK⟩⟩ := h
                      obtain ⟨v, w', γ', hr, hS⟩ := app_sound (P := P) hs (hτ _ _ hi) (hτ _ _ he) hne (blt_pos b2) (Nat.le_of_ble_eq_true b3) o.type hlow hdn hap hp
                      unfold Oper.wp execOp
                      simp only [ho, resolve, hcal, hca, hct, Sem.run_bind, Sem.run_pure, Result.andThen_ok, invoke, builtin, List.map_toArray, List.map_cons, List.map_nil, hr]
                      show ∃ s', K s' ∧ Den E s' (a.put o.dst v) w'
                      rw [hd]
                      exact ⟨_, hK, γ', hS⟩
                    · exact h.elim
                · exact h.elim
              · exact h.elim
          · exact h.elim
        · rename_i t x lo ho
          split at h
          · unfold trimVC at h
            split at h
            · rename_i i hi
              split at h
              · rename_i e he
                cases hbb : (Nat.blt 0 i.elem && Nat.beq e.size 1) with
                | false => rw [hbb] at h; exact h.elim
                | true =>
                  rw [hbb] at h
                  simp only [cond_true] at h
                  simp only [Bool.and_eq_true] at hbb
                  split at h
                  · rename_i p s' ht
                    obtain ⟨v, γ', hr, hS⟩ := trim_sound (P := P) hs (hτ _ _ hi) (hτ _ _ he) (by have := blt_pos hbb.1; omega) (Nat.eq_of_beq_eq_true hbb.2) hdn ht h.1
                    unfold Oper.wp execOp
                    simp only [ho, Option.map_some, Option.map_none, Sem.run_bind, hr, Result.andThen_ok, Sem.run_pure, Oper.upon]
                    rw [hd]
                    exact ⟨s', h.2.out, γ', hS⟩
                  · exact h.elim
              · exact h.elim
            · exact h.elim
          · exact h.elim
        · rename_i t x hi ho
          split at h
          · unfold cutVC at h
            split at h
            · rename_i i hti
              split at h
              · rename_i e he
                cases hbb : Nat.blt 0 i.elem with
                | false => rw [hbb] at h; exact h.elim
                | true =>
                  rw [hbb] at h
                  simp only [cond_true] at h
                  split at h
                  · rename_i p s' ht
                    obtain ⟨v, γ', hr, hS⟩ := cut_sound (P := P) hs (hτ _ _ hti) (hτ _ _ he) (by have := blt_pos hbb; omega) hdn ht h.1
                    unfold Oper.wp execOp
                    simp only [ho, Option.map_some, Option.map_none, Sem.run_bind, hr, Result.andThen_ok, Sem.run_pure, Oper.upon]
                    rw [hd]
                    exact ⟨s', h.2.out, γ', hS⟩
                  · exact h.elim
              · exact h.elim
            · exact h.elim
          · exact h.elim
        · rename_i op t x t' ho
          split at h
          · exact binVC_sound hτ ho hd hdn hs h
          · exact h.elim
        · rename_i src dst x ho
          split at h
          · exact cnvVC_sound ho hd hdn hs h
          · exact h.elim
        · exact h.elim

theorem getD_some {t : Nat} {v : Value} (h : a.tmps.getD t undef = v) (hv : v ≠ undef) : a.tmps[t]? = some v := by
  rw [Array.getD_eq_getD_getElem?] at h
  cases hx : a.tmps[t]? with
  | none => rw [hx] at h; exact absurd h.symm hv
  | some x => rw [hx] at h; exact congrArg some h
theorem wanted_at {ops : Array Oper} {o : Oper} {j dj : Nat} {want : Bool} (hg : o.guard = some (j, want)) (hj : (ops[j]?).bind (·.dst) = some dj) {x : Bool} (hv : a.tmps.getD dj undef = .bool x) :
    Region.wanted o (yielded ops a.tmps) = (x == want) := by
  have h1 := getD_some hv (by intro h; cases h)
  simp only [Region.wanted, hg, yielded, hj, Option.bind_some, h1]
  cases x <;> cases want <;> rfl
theorem wanted_undef {ops : Array Oper} {o : Oper} {j dj : Nat} {want : Bool} (hg : o.guard = some (j, want)) (hj : (ops[j]?).bind (·.dst) = some dj) {x : Array Value} (hv : a.tmps.getD dj undef = .tuple x) :
    Region.wanted o (yielded ops a.tmps) = false := by
  simp only [Region.wanted, hg, yielded, hj, Option.bind_some]
  rw [Array.getD_eq_getD_getElem?] at hv
  cases hx : a.tmps[dj]? with
  | none => rfl
  | some y => rw [hx] at hv; have : y = .tuple x := hv
              subst this; rfl
theorem skipVC_sound {o : Oper} {K : St → Prop} (hk : skipVC o s K) (h : Sim E s a w γ) : ∃ s', K s' ∧ Sim E s' (a.put o.dst undef) w γ := by
  unfold skipVC at hk
  cases ho : o.dst with
  | none => rw [ho] at hk; exact ⟨s, hk, h⟩
  | some d =>
    rw [ho] at hk
    simp only at hk
    cases hb : Nat.blt d s.n with
    | false => rw [hb] at hk; exact hk.elim
    | true => rw [hb] at hk; exact ⟨_, hk, h.put (blt_pos hb) rfl (fun M hM => hM.elim)⟩

theorem opsVC_sound (hτ : TyOk P τ) (ops : Array Oper) {Q : Exit → Act → World → Prop} : ∀ (l : List Oper) (K : St → Prop) (s : St) (a : Act) (w : World) (γ : Nm → Value), opsVC P τ sf ops l K s → Sim E s a w γ →
    (∀ s' a' w', K s' → Den E s' a' w' → Q .normal a' w') → wpList P ops Q l a w
  | [], K, s, a, w, γ, h, hs, hQ => hQ s a w h ⟨γ, hs⟩
  | o :: rest, K, s, a, w, γ, h, hs, hQ => by
    have exec : ∀ {s : St}, Sim E s a w γ → opVC P τ sf o s (opsVC P τ sf ops rest K) → o.wp P a w (wpList P ops Q rest) Q := fun hs hv =>
      Oper.wp_mono (fun a' w' ⟨s', h1, γ', h2⟩ => opsVC_sound hτ ops rest K s' a' w' γ' h1 h2 hQ) (opVC_sound hτ hv hs)
    have skip : ∀ {s : St}, Sim E s a w γ → skipVC o s (opsVC P τ sf ops rest K) → wpList P ops Q rest (a.put o.dst undef) w := fun hs hv => by
      obtain ⟨s', h1, h2⟩ := skipVC_sound hv hs
      exact opsVC_sound hτ ops rest K s' _ w γ h1 h2 hQ
    unfold opsVC at h
    simp only [fK_eq] at h
    unfold wpList
    cases hg : o.guard with
    | none =>
      rw [hg] at h
      rw [if_pos (by simp [Region.wanted, hg])]
      exact .inl (exec hs h)
    | some p =>
      obtain ⟨j, want⟩ := p
      rw [hg] at h
      simp only at h
      split at h
      · exact h.elim
      · rename_i dj hj
        have hsl := hs.slots dj
        split at h
        · rename_i he
          rw [he] at hsl
          have hv : a.tmps.getD dj undef = .bool true := by simpa [Reps] using hsl
          rw [wanted_at hg hj hv]
          cases want with
          | true => exact .inl (exec hs h)
          | false => exact skip hs h
        · rename_i he
          rw [he] at hsl
          have hv : a.tmps.getD dj undef = .bool false := by simpa [Reps] using hsl
          rw [wanted_at hg hj hv]
          cases want with
          | true => exact skip hs h
          | false => exact .inl (exec hs h)
        · rename_i z he
          rw [he] at hsl
          have hv : a.tmps.getD dj undef = .tuple z := by simpa [Reps] using hsl
          rw [wanted_undef hg hj hv]
          exact skip hs h
        · exact h.elim
end
end Go.Proofs.YtaopjdeigpiejaaDoor
namespace Go.Proofs.YtaopjdeigpiejaaDoor
open Go.RowKit
set_option linter.unusedVariables false

section
variable {P : Program} {τ : List (Nat × TyI)} {E : Ent0} {w : World} {s : St} {a : Act} {γ : Nm → Value}

def PostK (E : Ent0) (K : Exit → St → Prop) (e : Exit) (a : Act) (w : World) : Prop := ∃ s, K e s ∧ Den E s a w
/-- From every frame and world of which the state tells the truth, the code comes to a state that K lets pass. -/
structure VC (P : Program) (c : Code) (K : Exit → St → Prop) (s : St) : Prop where
  run : ∀ E a w, Den E s a w → c.wp P (PostK E K) a w
def seqK (n : St → Prop) (K : Exit → St → Prop) : Exit → St → Prop
  | .normal, s => n s
  | e, s => K e s
def blockK (id : Nat) (K : Exit → St → Prop) : Exit → St → Prop
  | .exit i, s => bif Nat.beq i id then K .normal s else K (.exit i) s
  | e, s => K e s
def St.learn (s : St) (c : Operand) (x : AV) : St := match c with | .tmp t => s.put t x | _ => s
def vc (P : Program) (τ : List (Nat × TyI)) : Code → (Exit → St → Prop) → St → Prop
  | .skip, K, s => K .normal s
  | .region _ ops false, K, s => opsVC P τ none ops ops.toList (fun s => K .normal s) s
  | .region id ops true, K, s => s.force fun s => VC P (.region id ops true) K s
  | .seq x y, K, s => vc P τ x (seqK (fun s' => vc P τ y K s') K) s
  | .cond c x y, K, s =>
    (match s.ev c with
     | .tt => vc P τ x K s
     | .ff => vc P τ y K s
     | .b z => (z = true → Nx (vc P τ x K (s.learn c .tt))) ∧ (z = false → Nx (vc P τ y K (s.learn c .ff)))
     | _ => False)
  | .block id c, K, s => vc P τ c (blockK id K) s
  | .loop c, K, s => s.force fun s => VC P (.loop c) K s
  | .exit id, K, s => K (.exit id) s
  | .ret, K, s => K .ret s
  | _, _, _ => False

theorem vc_sound (hτ : TyOk P τ) : ∀ (c : Code) (K : Exit → St → Prop) (s : St), vc P τ c K s → VC P c K s := by
  intro c
  induction c with
  | skip => intro K s h; refine ⟨fun E a w hd => ?_⟩; exact wp_skip ⟨s, h, hd⟩
  | region id ops draw =>
    intro K s h
    refine ⟨fun E a w hd => ?_⟩
    cases draw with
    | false =>
      obtain ⟨γ, hs⟩ := hd
      exact wp_region_list (opsVC_sound hτ ops ops.toList _ s a w γ h hs (fun s' a' w' h1 h2 => ⟨s', h1, h2⟩))
    | true => unfold vc at h; rw [forceS_eq] at h; exact h.run E a w hd
  | seq x y ihx ihy =>
    intro K s h
    refine ⟨fun E a w hd => ?_⟩
    refine wp_seq (wp_mono ((ihx _ s h).run E a w hd) ?_)
    rintro e a' w' ⟨s', h1, h2⟩
    cases e with
    | normal => exact (ihy K s' h1).run E a' w' h2
    | _ => exact ⟨s', h1, h2⟩
  | cond c x y ihx ihy =>
    intro K s h
    refine ⟨fun E a w hd => ?_⟩
    obtain ⟨γ, hs⟩ := hd
    have hc := (ev_sound hs c).1
    unfold vc at h
    split at h
    · rename_i he
      rw [he] at hc
      exact wp_cond_true (by simpa [Reps] using hc) ((ihx K s h).run E a w ⟨γ, hs⟩)
    · rename_i he
      rw [he] at hc
      exact wp_cond_false (by simpa [Reps] using hc) ((ihy K s h).run E a w ⟨γ, hs⟩)
    · rename_i z he
      rw [he] at hc
      have hv : a.eval c = .bool z := by simpa [Reps] using hc
      have know : ∀ b : Bool, z = b → Den E (s.learn c (bif b then .tt else .ff)) a w := fun b hb => by
        subst hb
        cases c with
        | tmp t => exact ⟨γ, hs.learn (by rw [show a.tmps.getD t undef = .bool z from hv]; cases z <;> rfl) (by cases z <;> exact fun M hM => hM.elim)⟩
        | _ => exact ⟨γ, hs⟩
      cases z with
      | true => exact wp_cond_true hv ((ihx K _ (h.1 rfl).out).run E a w (know true rfl))
      | false => exact wp_cond_false hv ((ihy K _ (h.2 rfl).out).run E a w (know false rfl))
    · exact h.elim
  | block id c ih =>
    intro K s h
    refine ⟨fun E a w hd => ?_⟩
    refine wp_block (wp_mono ((ih _ s h).run E a w hd) ?_)
    rintro e a' w' ⟨s', h1, h2⟩
    cases e with
    | exit i =>
      show if i = id then PostK E K .normal a' w' else PostK E K (.exit i) a' w'
      have h1' : (bif Nat.beq i id then K .normal s' else K (.exit i) s') := h1
      by_cases e : i = id
      · subst e; rw [if_pos rfl]; rw [Nat.beq_refl] at h1'; exact ⟨s', h1', h2⟩
      · rw [if_neg e]; rw [beq_ne e] at h1'; exact ⟨s', h1', h2⟩
    | _ => exact ⟨s', h1, h2⟩
  | loop c ih => intro K s h; unfold vc at h; rw [forceS_eq] at h; exact h
  | exit id => intro K s h; exact ⟨fun E a w hd => wp_exit ⟨s, h, hd⟩⟩
  | ret => intro K s h; exact ⟨fun E a w hd => wp_ret ⟨s, h, hd⟩⟩
  | _ => intro K s h; exact h.elim

/-- All that s tells is told by s'. -/
def St.le (s s' : St) : Prop := ∀ E a w, Den E s a w → Den E s' a w
theorem VC.le {c : Code} {K : Exit → St → Prop} {s s' : St} (hl : s.le s') (h : VC P c K s') : VC P c K s := ⟨fun E a w hd => h.run E a w (hl E a w hd)⟩

/-- A loop: the states at its head, by an index that goes down. -/
theorem VC_loop (hτ : TyOk P τ) {c : Code} {K : Exit → St → Prop} {s : St} {ι : Type} (I : ι → St) (p : ι → Prop) (μ : ι → Nat) (R : St → ι → Prop) (hR : ∀ s' i', R s' i' → s'.le (I i')) (i0 : ι) (h0 : p i0) (hs : s.le (I i0))
    (round : ∀ i, p i → Nx (vc P τ c (seqK (fun s' => ∃ i', p i' ∧ μ i' < μ i ∧ R s' i') K) (I i))) : VC P (.loop c) K s := by
  refine ⟨fun E a w hd => ?_⟩
  intro b k cs
  have key : ∀ n i a w, μ i = n → p i → Den E (I i) a w → ∃ e a' w', PostK E K e a' w' ∧ Arrives P (lone (b.at a (.code c :: .inLoop c :: k)) cs w) b k cs e a' w' := by
    intro n
    induction n using Nat.strongRecOn with
    | _ n ih =>
      intro i a w hn hp hd
      have hr := (vc_sound hτ c _ (I i) (round i hp).out).run E a w hd
      obtain ⟨e, a₁, w₁, ⟨s', hK, hd'⟩, harr⟩ := hr b (.inLoop c :: k) cs
      cases e with
      | normal =>
        obtain ⟨i', hp', hlt, hle⟩ := hK
        obtain ⟨e₂, a₂, w₂, hq₂, harr₂⟩ := ih (μ i') (hn ▸ hlt) i' a₁ w₁ rfl hp' (hR s' i' hle E a₁ w₁ hd')
        exact ⟨e₂, a₂, w₂, hq₂, .of_steps (Steps.trans harr (.one step_inLoop)) harr₂⟩
      | exit id => exact ⟨_, a₁, w₁, ⟨s', hK, hd'⟩, .pass (x := .inLoop c) rfl (fun _ _ => .inl (by simp)) harr⟩
      | goto l => exact ⟨_, a₁, w₁, ⟨s', hK, hd'⟩, .pass (x := .inLoop c) rfl (fun _ _ => .inl (by simp)) harr⟩
      | ret => exact ⟨_, a₁, w₁, ⟨s', hK, hd'⟩, .pass (x := .inLoop c) rfl (fun _ _ => .inl (by simp)) harr⟩
      | panic ch => exact ⟨_, a₁, w₁, ⟨s', hK, hd'⟩, .pass (x := .inLoop c) rfl (fun _ _ => .inl (by simp)) harr⟩
      | outgrown => exact ⟨_, a₁, w₁, ⟨s', hK, hd'⟩, .pass (x := .inLoop c) rfl (fun _ _ => .inl (by simp)) harr⟩
  obtain ⟨e, a', w', hq, harr⟩ := key _ i0 a w rfl h0 (hs E a w hd)
  exact ⟨e, a', w', hq, .of_steps (.one step_loop) harr⟩
end
end Go.Proofs.YtaopjdeigpiejaaDoor
namespace Go.Proofs.YtaopjdeigpiejaaDoor
open Go.RowKit
set_option linter.unusedVariables false

/-- What a says is said by b, too. cl: in a row's cell. The nil slice may be told as an empty slice of one's own. -/
def avle (s : St) : AV → Bool → AV → Prop
  | .cons a l, cl, y => match y with | .cons b m => avle s a false b ∧ avle s l false m | _ => False
  | .agg l, cl, y => match y with | .agg m => avle s l false m | .top => True | _ => False
  | .tup l, cl, y => match y with | .tup m => avle s l false m | .top => True | _ => False
  | .fn f l, cl, y => match y with | .fn g m => f = g ∧ avle s l false m | .top => True | _ => False
  | .nil, _, y => match y with | .nil => True | _ => False
  | .int k x, _, y => match y with | .int q z => k = q ∧ x = z | .top => True | _ => False
  | .b x, _, y => match y with | .b z => x = z | .tt => x = true | .ff => x = false | .top => True | _ => False
  | .tt, _, y => match y with | .b z => true = z | .tt => True | .top => True | _ => False
  | .ff, _, y => match y with | .b z => false = z | .ff => True | .top => True | _ => False
  | .s x, _, y => match y with | .s z => x = z | .top => True | _ => False
  | .c v, _, y => match y with | .c u => v = u | .top => True | _ => False
  | .top, _, y => match y with | .top => True | _ => False
  | .nl, cl, y => match y with | .nl => True | .e0 => True | .os N => N.p = [] ∧ s.rblk N.r = none | .ri f k xs => xs = [] | .rs f n st cell => n = 0 | .oi e k xs => cl = true ∧ xs = [] | .ow e n st cell => cl = true ∧ n = 0 | .top => True | _ => False
  | .e0, _, y => match y with | .e0 => True | .ri f k xs => xs = [] | .rs f n st cell => n = 0 | .top => True | _ => False
  | .ri f k xs, _, y => match y with | .ri g q ys => (g = false ∨ f = g) ∧ k = q ∧ xs = ys | .top => True | _ => False
  | .rs f m st cell, _, y => match y with | .rs g m' st' cell' => (g = false ∨ f = g) ∧ m = m' ∧ st = st' ∧ ∀ i j, i < m → j < st → cell i j = cell' i j | .top => True | _ => False
  | .rp f m st cell i0 j0, _, y => match y with | .rp g m' st' cell' i1 j1 => (g = false ∨ f = g) ∧ m = m' ∧ st = st' ∧ i0 = i1 ∧ j0 = j1 ∧ ∀ i j, i < m → j < st → cell i j = cell' i j | .top => True | _ => False
  | .op N j, _, y => match y with | .op M j' => N = M ∧ j = j' | .top => True | _ => False
  | .om N, _, y => match y with | .om M => N = M | .top => True | _ => False
  | .os N, _, y => match y with | .os M => N = M | .top => True | _ => False
  | .oe N st k j, _, y => match y with | .oe M st' k' j' => N = M ∧ st = st' ∧ k = k' ∧ j = j' | .top => True | _ => False
  | .oi e k xs, cl, y => match y with | .oi e' k' ys => cl = true ∧ e = e' ∧ k = k' ∧ xs = ys | _ => False
  | .ow e m st cell, cl, y => match y with | .ow e' m' st' cell' => cl = true ∧ e = e' ∧ m = m' ∧ st = st' ∧ ∀ i j, i < m → j < st → avle s (cell i j) true (cell' i j) | _ => False
def ctle (s : St) (c c' : Ct) : Prop :=
  match c, c' with
  | .ints k xs, .ints q ys => k = q ∧ xs = ys
  | .bools xs, .bools ys => xs = ys
  | .tab n st cell, .tab n' st' cell' => n = n' ∧ st = st' ∧ ∀ i j, i < n → j < st → avle s (cell i j) true (cell' i j)
  | .ints k xs, .tab n st cell => xs.length = n ∧ 1 = st ∧ ∀ i, i < xs.length → cell i 0 = .int k (xs.getD i 0)
  | .tab n st cell, .ints k xs => n = xs.length ∧ st = 1 ∧ ∀ i, i < n → cell i 0 = .int k (xs.getD i 0)
  | _, _ => False
def mcle (m m' : Mc) : Prop :=
  match m, m' with
  | .ints k es, .ints q es' => k = q ∧ es = es'
  | .bools es, .bools es' => es = es'
  | _, _ => False
def blle (s : St) (x y : Blk) : Prop :=
  match x, y with
  | .box l, .box m => avle s l false m
  | .row e c, .row e' c' => e = e' ∧ ctle s c c'
  | .mp t m, .mp t' m' => t = t' ∧ mcle m m'
  | _, _ => False
def AV.within (ns : List Nat) : AV → Prop
  | .cons a l => a.within ns ∧ l.within ns
  | .agg l => l.within ns
  | .tup l => l.within ns
  | .fn _ l => l.within ns
  | .op N _ => ns.contains N.r = true
  | .om N => ns.contains N.r = true
  | .os N => ns.contains N.r = true
  | .oe N _ _ _ => ns.contains N.r = true
  | .ow _ n st cell => ∀ i j, i < n → j < st → (cell i j).within ns
  | _ => True
def Blk.within (ns : List Nat) : Blk → Prop
  | .box l => l.within ns
  | .row _ (.tab n st cell) => ∀ i j, i < n → j < st → (cell i j).within ns
  | _ => True
def names : List (Nat × Option Blk) → List Nat
  | [] => []
  | p :: l => match p.2 with | some _ => p.1 :: names l | none => names l
def leS (s : St) (ns : List Nat) : List (Nat × AV) → Prop
  | [] => True
  | p :: l => (avle s (s.slot p.1) false p.2 ∧ p.2.within ns) ∧ leS s ns l
/-- A block of the new state. -/
def leB1 (s : St) (ns : List Nat) (L : Nat) (y : Blk) : Prop :=
  (match s.rblk L with
   | some x => blle s x y
   | none => low ≤ L ∧ (match y with | .row _ c => c.len = 0 | _ => False)) ∧ y.within ns
def leB (s : St) (ns : List Nat) : List (Nat × Option Blk) → Prop
  | [] => True
  | p :: l => (match p.2 with | some y => leB1 s ns p.1 y | none => True) ∧ leB s ns l
/-- s tells all that t tells, entry by entry. -/
structure St.Le (s t : St) : Prop where
  n : s.n = t.n
  ok : (names t.store).all (fun L => (lkb t.store L).isSome) = true
  slots : leS s (names t.store) t.slots
  store : leB s (names t.store) t.store

section
variable {E : Ent0} {w : World} {s t : St} {a : Act} {γ : Nm → Value}

theorem leS_at {ns : List Nat} : ∀ {l : List (Nat × AV)} (h : leS s ns l) (r : Nat), lks l r = .top ∨ (avle s (s.slot r) false (lks l r) ∧ (lks l r).within ns) := by
  intro l
  induction l with
  | nil => intro h r; exact .inl rfl
  | cons p l ih =>
    intro h r
    unfold lks
    cases hb : Nat.beq p.1 r with
    | true => obtain rfl := Nat.eq_of_beq_eq_true hb; exact .inr h.1
    | false => exact ih h.2 r
theorem leB_at {ns : List Nat} : ∀ {l : List (Nat × Option Blk)} (h : leB s ns l) {L : Nat} {y : Blk}, lkb l L = some y → leB1 s ns L y := by
  intro l
  induction l with
  | nil => intro h L y hy; cases hy
  | cons p l ih =>
    intro h L y hy
    unfold lkb at hy
    cases hb : Nat.beq p.1 L with
    | true =>
      rw [hb] at hy
      obtain rfl := Nat.eq_of_beq_eq_true hb
      have h1 := h.1
      rw [show p.2 = some y from hy] at h1
      exact h1
    | false => rw [hb] at hy; exact ih h.2 hy

theorem avle_has : ∀ {x y : AV} {cl : Bool}, avle s x cl y → ∀ N, y.has N → x.has N ∨ (N.p = [] ∧ s.rblk N.r = none) := by
  intro x
  induction x with
  | cons a l iha ihl =>
    intro y cl h N hN
    unfold avle at h
    split at h
    · rcases hN with hN | hN
      · exact (iha h.1 N hN).imp .inl id
      · exact (ihl h.2 N hN).imp .inr id
    · exact h.elim
  | agg l ih => intro y cl h N hN; unfold avle at h; split at h <;> first | exact ih h N hN | exact hN.elim | exact h.elim
  | tup l ih => intro y cl h N hN; unfold avle at h; split at h <;> first | exact ih h N hN | exact hN.elim | exact h.elim
  | fn f l ih => intro y cl h N hN; unfold avle at h; split at h <;> first | exact ih h.2 N hN | exact hN.elim | exact h.elim
  | nl =>
    intro y cl h N hN; unfold avle at h
    split at h
    · exact hN.elim
    · exact hN.elim
    · cases (show _ = N from hN); exact .inr h
    all_goals first | exact hN.elim | exact h.elim
  | op M j => intro y cl h N hN; unfold avle at h; split at h <;> first | (cases (show _ = N from hN); exact .inl h.1) | exact hN.elim | exact h.elim
  | om M => intro y cl h N hN; unfold avle at h; split at h <;> first | (cases (show _ = N from hN); exact .inl h) | exact hN.elim | exact h.elim
  | os M => intro y cl h N hN; unfold avle at h; split at h <;> first | (cases (show _ = N from hN); exact .inl h) | exact hN.elim | exact h.elim
  | oe M st k j => intro y cl h N hN; unfold avle at h; split at h <;> first | (cases (show _ = N from hN); exact .inl h.1) | exact hN.elim | exact h.elim
  | _ => intro y cl h N hN; unfold avle at h; split at h <;> first | exact hN.elim | exact h.elim
theorem within_has {ns : List Nat} {N : Nm} : ∀ {x : AV}, x.within ns → x.has N → N.r ∈ ns := by
  intro x
  induction x with
  | cons a l iha ihl => intro h; rintro (h1 | h1); exact iha h.1 h1; exact ihl h.2 h1
  | agg l ih => exact ih
  | tup l ih => exact ih
  | fn f l ih => exact ih
  | op M j => intro h h1; cases (show M = N from h1); simpa [AV.within] using h
  | om M => intro h h1; cases (show M = N from h1); simpa [AV.within] using h
  | os M => intro h h1; cases (show M = N from h1); simpa [AV.within] using h
  | oe M st k j => intro h h1; cases (show M = N from h1); simpa [AV.within] using h
  | _ => intro _ h; exact h.elim
theorem withinB_has {ns : List Nat} {N : Nm} {x : Blk} (h : x.within ns) (h1 : x.has N) : N.r ∈ ns := by
  cases x with
  | box l => exact within_has h h1
  | row e c =>
    obtain ⟨k, j, hk, hj, h1⟩ := h1
    cases c with
    | tab n st cell => exact within_has (h k j hk hj) h1
    | ints q xs => exact h1.elim
    | bools xs => exact h1.elim
  | mp t m => exact h1.elim
theorem within_sub {ns : List Nat} {a : AV} {y : Blk} (h : a.within ns) (hs : a.sub = some y) : y.within ns := by
  cases a <;> cases hs
  · trivial
  · exact h
theorem within_at {ns : List Nat} : ∀ {p : List (Nat × Nat)} {x z : Blk}, x.within ns → x.At p z → z.within ns := by
  intro p
  induction p with
  | nil => intro x z h hz; cases hz; exact h
  | cons q p ih =>
    obtain ⟨i, j⟩ := q
    rintro x z h ⟨e, c, y, rfl, h1, h2, h3, h4⟩
    cases c with
    | tab n st cell => exact ih (within_sub (h i j h1 h2) h3) h4
    | ints k xs => cases h3
    | bools xs => cases h3

/-- Cells of a row that tells less. -/
theorem ctle_spec {c c' : Ct} (h : ctle s c c') : c.len = c'.len ∧ c.st = c'.st ∧ ∀ i j, i < c.len → j < c.st → avle s (c.cell i j) true (c'.cell i j) := by
  unfold ctle at h
  split at h
  · obtain ⟨rfl, rfl⟩ := h; exact ⟨rfl, rfl, fun i j _ _ => ⟨rfl, rfl⟩⟩
  · subst h; exact ⟨rfl, rfl, fun i j _ _ => rfl⟩
  · obtain ⟨rfl, rfl, h⟩ := h; exact ⟨rfl, rfl, h⟩
  · obtain ⟨rfl, rfl, h⟩ := h
    refine ⟨rfl, rfl, fun i j hi hj => ?_⟩
    have hj' : j < 1 := hj
    obtain rfl : j = 0 := by omega
    show avle s (ci _ _ i 0) true _
    rw [show ((Ct.tab _ 1 _).cell i 0) = _ from h i hi]
    exact ⟨rfl, rfl⟩
  · obtain ⟨rfl, rfl, h⟩ := h
    refine ⟨rfl, rfl, fun i j hi hj => ?_⟩
    have hj' : j < 1 := hj
    obtain rfl : j = 0 := by omega
    rw [show ((Ct.tab _ 1 _).cell i 0) = _ from h i hi]
    exact ⟨rfl, rfl⟩
  · exact h.elim
/-- Slices of one's own in cells. -/
theorem avle_sub {x y : AV} (h : avle s x true y) : (∀ z, x.sub = some z → ∃ z', y.sub = some z' ∧ blle s z z') ∧ (∀ z', y.sub = some z' → (∃ z, x.sub = some z ∧ blle s z z') ∨ (x = .nl ∧ ∃ e c, z' = .row e c ∧ c.len = 0)) := by
  cases x with
  | oi e k xs =>
    unfold avle at h
    split at h
    · obtain ⟨_, rfl, rfl, rfl⟩ := h
      exact ⟨fun z hz => ⟨_, rfl, (by cases hz; exact ⟨rfl, rfl, rfl⟩)⟩, fun z' hz => .inl ⟨_, rfl, (by cases hz; exact ⟨rfl, rfl, rfl⟩)⟩⟩
    · exact h.elim
  | ow e n st cell =>
    unfold avle at h
    split at h
    · obtain ⟨_, rfl, rfl, rfl, h⟩ := h
      exact ⟨fun z hz => ⟨_, rfl, (by cases hz; exact ⟨rfl, rfl, rfl, h⟩)⟩, fun z' hz => .inl ⟨_, rfl, (by cases hz; exact ⟨rfl, rfl, rfl, h⟩)⟩⟩
    · exact h.elim
  | nl =>
    refine ⟨fun z hz => (by cases hz), fun z' hz => .inr ⟨rfl, ?_⟩⟩
    unfold avle at h
    split at h <;> first | (cases hz; done) | exact h.elim | skip
    · cases hz; exact ⟨_, _, rfl, by rw [h.2]; rfl⟩
    · cases hz; exact ⟨_, _, rfl, h.2⟩
  | _ =>
    refine ⟨fun z hz => (by cases hz), fun z' hz => ?_⟩
    unfold avle at h
    split at h <;> first | (cases hz; done) | exact h.elim
/-- What lies where. -/
theorem blle_at : ∀ {p : List (Nat × Nat)} {x y z' : Blk}, blle s x y → y.At p z' → (∃ z, x.At p z ∧ blle s z z') ∨ ((∃ q i j e c, p = q ++ [(i, j)] ∧ x.At q (.row e c) ∧ i < c.len ∧ j < c.st ∧ c.cell i j = .nl) ∧ ∃ e c, z' = .row e c ∧ c.len = 0) := by
  intro p
  induction p with
  | nil => intro x y z' h hz; cases hz; exact .inl ⟨x, rfl, h⟩
  | cons q p ih =>
    obtain ⟨i, j⟩ := q
    rintro x y z' h ⟨e, c', y1, rfl, h1, h2, h3, h4⟩
    cases x with
    | box l => exact h.elim
    | mp t m => exact h.elim
    | row e0 c =>
      obtain ⟨rfl, hc⟩ := h
      obtain ⟨g1, g2, g3⟩ := ctle_spec hc
      have hcij := g3 i j (by omega) (by omega)
      rcases (avle_sub hcij).2 y1 h3 with ⟨x1, k1, k2⟩ | ⟨k1, e1, c1, rfl, k2⟩
      · rcases ih k2 h4 with ⟨z, k3, k4⟩ | ⟨⟨q, i', j', e', c'', rfl, k3, k5, k6, k7⟩, k4⟩
        · exact .inl ⟨z, ⟨_, c, x1, rfl, by omega, by omega, k1, k3⟩, k4⟩
        · exact .inr ⟨⟨(i, j) :: q, i', j', e', c'', rfl, ⟨_, c, x1, rfl, by omega, by omega, k1, k3⟩, k5, k6, k7⟩, k4⟩
      · cases p with
        | nil => cases h4; exact .inr ⟨⟨[], i, j, _, c, rfl, rfl, by omega, by omega, k1⟩, _, _, rfl, k2⟩
        | cons q p =>
          obtain ⟨i', j'⟩ := q
          obtain ⟨e5, c5, y5, k3, k4, _⟩ := h4
          cases k3; omega
theorem blle_at2 : ∀ {p : List (Nat × Nat)} {x y z : Blk}, blle s x y → x.At p z → ∃ z', y.At p z' := by
  intro p
  induction p with
  | nil => intro x y z h hz; exact ⟨y, rfl⟩
  | cons q p ih =>
    obtain ⟨i, j⟩ := q
    rintro x y z h ⟨e, c, x1, rfl, h1, h2, h3, h4⟩
    cases y with
    | box l => exact h.elim
    | mp t m => exact h.elim
    | row e0 c' =>
      obtain ⟨rfl, hc⟩ := h
      obtain ⟨g1, g2, g3⟩ := ctle_spec hc
      obtain ⟨z1, k1, k2⟩ := (avle_sub (g3 i j h1 h2)).1 x1 h3
      obtain ⟨z', hz'⟩ := ih k2 h4
      exact ⟨z', _, c', z1, rfl, by omega, by omega, k1, hz'⟩

theorem blle_has {x y : Blk} (h : blle s x y) : ∀ N, y.has N → x.has N ∨ (N.p = [] ∧ s.rblk N.r = none) := by
  intro N hN
  cases x with
  | box l => cases y with | box m => exact avle_has h N hN | _ => exact h.elim
  | mp t m => cases y with | mp t m => exact hN.elim | _ => exact h.elim
  | row e c =>
    cases y with
    | row e' c' =>
      obtain ⟨rfl, hc⟩ := h
      obtain ⟨g1, g2, g3⟩ := ctle_spec hc
      obtain ⟨k, j, hk, hj, hM⟩ := hN
      exact (avle_has (g3 k j (by omega) (by omega)) N hM).imp (fun h => ⟨k, j, by omega, by omega, h⟩) id
    | _ => exact h.elim
/-- What is new may be told as not new. -/
theorem Reps.soft {own : Bool → Nat → Prop} (hT : ∀ b, ¬ own true b → ¬ own false b) : ∀ {a : AV} {vs : List Value}, Reps w own γ a (.r true) vs → Reps w own γ a (.r false) vs := by
  have fl : ∀ {f : Bool} {b : Nat}, ¬ own true b → ¬ own (false || f) b := fun {f b} h => by cases f with | false => exact hT b h | true => exact h
  have deep : ∀ {a : AV} {f : Bool} {vs : List Value}, Reps w own γ a (.r true) vs → Reps w own γ a (.r f) vs := by
    intro a
    induction a with
    | cons a l iha ihl => rintro f vs ⟨v, us, e, h1, h2⟩; exact ⟨v, us, e, iha h1, ihl h2⟩
    | agg l ih => rintro f vs ⟨us, e, h1⟩; exact ⟨us, e, ih h1⟩
    | tup l ih => rintro f vs ⟨us, e, h1⟩; exact ⟨us, e, ih h1⟩
    | fn q l ih => rintro f vs ⟨us, e, h1⟩; exact ⟨us, e, ih h1⟩
    | op L j => rintro f vs ⟨r, e⟩; cases r
    | om L => rintro f vs ⟨r, e⟩; cases r
    | os L => rintro f vs ⟨r, e⟩; cases r
    | oe L st k j => rintro f vs ⟨r, e⟩; cases r
    | ri f' q xs =>
      rintro f vs ⟨A, cap, e, hc, h1⟩
      refine ⟨A, cap, e, hc, fun hn => ?_⟩
      obtain ⟨bk, o, e1, h2, h3, h4⟩ := h1 hn
      exact ⟨bk, o, e1, h2, by cases f <;> cases f' <;> first | exact h3 | exact hT _ h3, h4⟩
    | rs f' n st cell ih =>
      rintro f vs ⟨A, cap, e, hc, h1⟩
      refine ⟨A, cap, e, hc, fun hn => ?_⟩
      obtain ⟨bk, o, e1, h2, h3, h4⟩ := h1 hn
      refine ⟨bk, o, e1, h2, by cases f <;> cases f' <;> first | exact h3 | exact hT _ h3, fun k j hk hj => ?_⟩
      obtain ⟨u, h5, ho, h6⟩ := h4 k j hk hj
      exact ⟨u, h5, ho, ih k j h6⟩
    | rp f' n st cell k0 j0 ih =>
      rintro f vs ⟨bk, o, e1, h0, h2, h3, h4⟩
      refine ⟨bk, o, e1, h0, h2, by cases f <;> cases f' <;> first | exact h3 | exact hT _ h3, fun k j hk hj => ?_⟩
      obtain ⟨u, h5, ho, h6⟩ := h4 k j hk hj
      exact ⟨u, h5, ho, ih k j h6⟩
    | _ => intro f vs h1; exact h1
  intro a vs h
  exact deep h
/-- A value that tells less. -/
theorem avle_sound {own own' : Bool → Nat → Prop} {γ' : Nm → Value} (hO : ∀ f b, ¬ own f b → ¬ own' f b) (hT : ∀ b, ¬ own' true b → ¬ own' false b) (hg : ∀ N, s.lv N → γ' N = γ N) (hn : ∀ L, s.rblk L = none → γ' (rt L) = .slice none 0 0) :
    ∀ {x : AV} {cl : Bool} {y : AV} {vs : List Value}, avle s x cl y → s.live x → (cl = true → y.sub = none) → Reps w own γ x .o vs → Reps w own' γ' y .o vs := by
  have flg : ∀ {f g : Bool} {b : Nat}, (g = false ∨ f = g) → ¬ own f b → ¬ own' g b := by
    intro f g b h h1
    rcases h with rfl | rfl
    · have h2 := hO _ _ h1
      cases f with
      | false => exact h2
      | true => exact hT _ h2
    · exact hO _ _ h1
  have KP : Keeps w w own own' := ⟨Nat.le_refl _, fun _ _ _ _ => rfl, fun f b _ hn => hO f b hn⟩
  have top : ∀ {x : AV} {vs : List Value}, Reps w own γ x .o vs → x.len = 1 → Reps w own' γ' .top .o vs := by
    intro x vs h hl
    have := h.len
    rw [hl] at this
    match vs, this with
    | [v], _ => exact ⟨v, rfl⟩
  have down : ∀ {f g : Bool} {a : AV} {u : Value}, (g = false ∨ f = g) → Reps w own γ a (.r f) [u] → Reps w own' γ' a (.r g) [u] := by
    intro f g a u h h1
    have h2 : Reps w own' γ a (.r f) [u] := h1.keep KP
    rcases h with rfl | rfl
    · cases f with
      | false => exact h2.gam_ro
      | true => exact (h2.soft hT).gam_ro
    · exact h2.gam_ro
  intro x
  induction x with
  | cons a l iha ihl =>
    intro cl y vs h hl hs hr
    unfold avle at h
    split at h
    · obtain ⟨v, us, e, h1, h2⟩ := hr
      exact ⟨v, us, e, iha h.1 (fun N hN => hl N (.inl hN)) (fun h => by cases h) h1, ihl h.2 (fun N hN => hl N (.inr hN)) (fun h => by cases h) h2⟩
    · exact h.elim
  | agg l ih =>
    intro cl y vs h hl hs hr
    unfold avle at h
    split at h
    · obtain ⟨us, e, h1⟩ := hr
      exact ⟨us, e, ih h hl (fun h => by cases h) h1⟩
    · exact top hr rfl
    · exact h.elim
  | tup l ih =>
    intro cl y vs h hl hs hr
    unfold avle at h
    split at h
    · obtain ⟨us, e, h1⟩ := hr
      exact ⟨us, e, ih h hl (fun h => by cases h) h1⟩
    · exact top hr rfl
    · exact h.elim
  | fn f l ih =>
    intro cl y vs h hl hs hr
    unfold avle at h
    split at h
    · obtain ⟨us, e, h1⟩ := hr
      obtain ⟨rfl, h⟩ := h
      exact ⟨us, e, ih h hl (fun h => by cases h) h1⟩
    · exact top hr rfl
    · exact h.elim
  | nil => intro cl y vs h hl hs hr; unfold avle at h; split at h <;> first | exact hr | exact h.elim
  | int k n => intro cl y vs h hl hs hr; unfold avle at h; split at h <;> first | (obtain ⟨rfl, rfl⟩ := h; exact hr) | exact top hr rfl | exact h.elim
  | b x => intro cl y vs h hl hs hr; unfold avle at h; split at h <;> first | (subst h; exact hr) | exact top hr rfl | exact h.elim
  | tt => intro cl y vs h hl hs hr; unfold avle at h; split at h <;> first | (subst h; exact hr) | exact hr | exact top hr rfl | exact h.elim
  | ff => intro cl y vs h hl hs hr; unfold avle at h; split at h <;> first | (subst h; exact hr) | exact hr | exact top hr rfl | exact h.elim
  | s x => intro cl y vs h hl hs hr; unfold avle at h; split at h <;> first | (subst h; exact hr) | exact top hr rfl | exact h.elim
  | c v => intro cl y vs h hl hs hr; unfold avle at h; split at h <;> first | (subst h; exact hr) | exact top hr rfl | exact h.elim
  | top => intro cl y vs h hl hs hr; unfold avle at h; split at h <;> first | exact hr | exact h.elim
  | nl =>
    intro cl y vs h hl hs hr
    have hr' : vs = [.slice none 0 0] := hr
    unfold avle at h
    split at h
    · exact hr
    · exact ⟨none, hr'⟩
    · rename_i N
      have eN : N = rt N.r := by obtain ⟨r, p⟩ := N; have := h.1; simp only at this; rw [this]
      refine ⟨rfl, ?_⟩
      rw [eN, hn _ h.2]; exact hr'
    · subst h; exact ⟨none, 0, hr', Nat.le_refl _, fun h => by cases h⟩
    · subst h; exact ⟨none, 0, hr', Nat.le_refl _, fun h => by cases h⟩
    · have := hs h.1; cases this
    · have := hs h.1; cases this
    · exact top hr rfl
    · exact h.elim
  | e0 =>
    intro cl y vs h hl hs hr
    unfold avle at h
    obtain ⟨A, hr'⟩ := hr
    split at h
    · exact ⟨A, hr'⟩
    · subst h; exact ⟨A, 0, hr', Nat.le_refl _, fun h => by cases h⟩
    · subst h; exact ⟨A, 0, hr', Nat.le_refl _, fun h => by cases h⟩
    · exact top (x := .e0) ⟨A, hr'⟩ rfl
    · exact h.elim
  | ri f k xs =>
    intro cl y vs h hl hs hr
    unfold avle at h
    split at h
    · obtain ⟨hf, rfl, rfl⟩ := h
      obtain ⟨A, cap, e, hc, h1⟩ := hr
      refine ⟨A, cap, e, hc, fun hn => ?_⟩
      obtain ⟨bk, o, e1, h2, h3, h4⟩ := h1 hn
      exact ⟨bk, o, e1, h2, flg hf h3, h4⟩
    · exact top hr rfl
    · exact h.elim
  | rs f n st cell ih =>
    intro cl y vs h hl hs hr
    unfold avle at h
    split at h
    · obtain ⟨hf, rfl, rfl, hcell⟩ := h
      obtain ⟨A, cap, e, hc, h1⟩ := hr
      refine ⟨A, cap, e, hc, fun hn => ?_⟩
      obtain ⟨bk, o, e1, h2, h3, h4⟩ := h1 hn
      refine ⟨bk, o, e1, h2, flg hf h3, fun i j hi hj => ?_⟩
      obtain ⟨u, h5, ho, h6⟩ := h4 i j hi hj
      exact ⟨u, h5, ho, by rw [← hcell i j hi hj]; exact down hf h6⟩
    · exact top hr rfl
    · exact h.elim
  | rp f n st cell i0 j0 ih =>
    intro cl y vs h hl hs hr
    unfold avle at h
    split at h
    · obtain ⟨hf, rfl, rfl, rfl, rfl, hcell⟩ := h
      obtain ⟨bk, o, e1, h0, h2, h3, h4⟩ := hr
      refine ⟨bk, o, e1, h0, h2, flg hf h3, fun i j hi hj => ?_⟩
      obtain ⟨u, h5, ho, h6⟩ := h4 i j hi hj
      exact ⟨u, h5, ho, by rw [← hcell i j hi hj]; exact down hf h6⟩
    · exact top hr rfl
    · exact h.elim
  | op N j =>
    intro cl y vs h hl hs hr
    unfold avle at h
    split at h
    · obtain ⟨rfl, rfl⟩ := h
      obtain ⟨_, e, h1⟩ := hr
      rw [← hg N (hl N rfl)] at e h1
      exact ⟨rfl, e, h1⟩
    · exact top hr rfl
    · exact h.elim
  | om N =>
    intro cl y vs h hl hs hr
    unfold avle at h
    split at h
    · subst h
      obtain ⟨_, e⟩ := hr
      exact ⟨rfl, by rw [hg _ (hl _ rfl)]; exact e⟩
    · exact top hr rfl
    · exact h.elim
  | os N =>
    intro cl y vs h hl hs hr
    unfold avle at h
    split at h
    · subst h
      obtain ⟨_, e⟩ := hr
      exact ⟨rfl, by rw [hg _ (hl _ rfl)]; exact e⟩
    · exact top hr rfl
    · exact h.elim
  | oe N st k j =>
    intro cl y vs h hl hs hr
    unfold avle at h
    split at h
    · obtain ⟨rfl, rfl, rfl, rfl⟩ := h
      obtain ⟨_, e, h1⟩ := hr
      rw [← hg N (hl N rfl)] at e h1
      exact ⟨rfl, e, h1⟩
    · exact top hr rfl
    · exact h.elim
  | _ => intro cl y vs h hl hs hr; exact hr.elim

/-- A state that tells less. -/
theorem St.Le.sim' (h : s.Le t) (hs : Sim E s a w γ) : ∃ γ', Sim E t a w γ' ∧ (∀ x y vs, avle s x false y → s.live x → Reps w (E.ow (s.own γ)) γ x .o vs → Reps w (E.ow (t.own γ')) γ' y .o vs) ∧ ∀ x y, avle s x false y → s.live x → y.within (names t.store) → t.live y := by
  classical
  let γ' : Nm → Value := fun N => if s.lv N then γ N else .slice none 0 0
  have hg : ∀ N, s.lv N → γ' N = γ N := fun N hN => if_pos hN
  have hn0 : ∀ N, ¬ s.lv N → γ' N = .slice none 0 0 := fun N hN => if_neg hN
  have hn : ∀ L, s.rblk L = none → γ' (rt L) = .slice none 0 0 := fun L hL => hn0 _ (fun hv => not_lv hL hv rfl)
  -- what lies where
  have C : ∀ N y, t.at N y → (∃ x, s.at N x ∧ blle s x y) ∨ (¬ s.lv N ∧ (low ≤ N.r ∨ N.p ≠ [])) ∧ ∃ e c, y = .row e c ∧ c.len = 0 := by
    rintro ⟨L, p⟩ y ⟨y0, h1, h2⟩
    have h3 := (leB_at h.store h1).1
    cases hx : s.rblk L with
    | some x =>
      rw [hx] at h3
      rcases blle_at h3 h2 with ⟨z, k1, k2⟩ | ⟨⟨q, i, j, e, c, rfl, k1, k2, k3, k4⟩, k5⟩
      · exact .inl ⟨z, ⟨x, hx, k1⟩, k2⟩
      · refine .inr ⟨⟨fun ⟨z, hz⟩ => ?_, .inr (by simp)⟩, k5⟩
        obtain ⟨e', c', g1, g2, g3, g4⟩ := kid_at (N := ⟨L, q⟩) hz
        have := AtL.uniq (lk := s.rblk) (N := ⟨L, q⟩) ⟨x, hx, k1⟩ g1
        cases this
        rw [k4] at g4; cases g4
    | none =>
      rw [hx] at h3
      cases y0 with
      | row e c =>
        have hl0 : c.len = 0 := h3.2
        cases p with
        | nil => cases h2; exact .inr ⟨⟨fun hv => not_lv hx hv rfl, .inl h3.1⟩, e, c, rfl, hl0⟩
        | cons q p => obtain ⟨i, j⟩ := q; obtain ⟨e', c', y', he, k1, _⟩ := h2; cases he; omega
      | _ => exact h3.2.elim
  have own' : ∀ b, t.own γ' b → s.own γ b := by
    rintro b ⟨N, y, hN, hb⟩
    rcases C N y hN with ⟨x, h1, _⟩ | ⟨h1, _⟩
    · rw [hg N ⟨x, h1⟩] at hb; exact ⟨N, x, h1, hb⟩
    · have hnl : ¬ s.lv N := h1.1
      rw [hn0 N hnl] at hb; cases hb
  have hO : ∀ f b, ¬ E.ow (s.own γ) f b → ¬ E.ow (t.own γ') f b := fun f b h1 h2 => h1 (h2.imp (own' b) id)
  have hT : ∀ b, ¬ E.ow (t.own γ') true b → ¬ E.ow (t.own γ') false b := fun b h1 h2 => h1 (ow_mono _ _ b h2)
  -- names of the new state
  have inN : ∀ L, L ∈ names t.store → ∃ y, t.rblk L = some y := fun L hL => by
    have := (List.all_eq_true.1 h.ok) L hL
    exact Option.isSome_iff_exists.1 this
  have lvt : ∀ N, (s.lv N ∨ (N.p = [] ∧ s.rblk N.r = none)) → N.r ∈ names t.store → t.lv N := by
    intro N hN hin
    obtain ⟨y, hy⟩ := inN N.r hin
    rcases hN with ⟨z, x, h1, h2⟩ | ⟨h1, h2⟩
    · have h3 := (leB_at h.store hy).1
      rw [h1] at h3
      obtain ⟨z', hz'⟩ := blle_at2 h3 h2
      exact ⟨z', y, hy, hz'⟩
    · exact ⟨y, y, hy, by rw [h1]; rfl⟩
  refine ⟨γ', hs.build (Step.same _ w) (by rw [← h.n]; exact hs.size) hs.defers (fun D y hD bk hb => .inr (own' bk ⟨D, y, hD, hb⟩)) (fun N M x y bk hN hM hb hc => ?_) (fun hk r => ?_) (fun hk N y hN => ?_) ⟨fun r N hN => ?_, fun M y N hM hN => ?_⟩ (fun L hL hlv => ?_), fun x y vs h1 h2 h3 => avle_sound hO hT hg hn h1 h2 (fun h => by cases h) h3, fun x y h1 h2 h3 N hN => lvt N ((avle_has h1 N hN).imp (h2 N) id) (within_has h3 hN)⟩
  · have f : ∀ {N y}, t.at N y → blkOf (γ' N) = some bk → ∃ x, s.at N x ∧ blkOf (γ N) = some bk := fun {N y} hN hb => by
      rcases C N y hN with ⟨x, h1, _⟩ | ⟨h1, _⟩
      · rw [hg N ⟨x, h1⟩] at hb; exact ⟨x, h1, hb⟩
      · have hnl : ¬ s.lv N := h1.1
        rw [hn0 N hnl] at hb; cases hb
    obtain ⟨x1, k1, k2⟩ := f hN hb
    obtain ⟨x2, k3, k4⟩ := f hM hc
    exact hs.inj N M x1 x2 bk k1 k3 k2 k4
  · rcases leS_at h.slots r with e | ⟨h1, _⟩
    · rw [show t.slot r = .top from e]; exact ⟨_, rfl⟩
    · exact avle_sound hO hT hg hn h1 (hs.wf.slot r) (fun h => by cases h) (hs.slots r)
  · rcases C N y hN with ⟨x, h1, h2⟩ | ⟨h1, e, c, rfl, h3⟩
    · have hb := hs.blks N x h1
      have hlv : ∀ M, x.has M → s.lv M := fun M hM => hs.wf.blk N x M h1 hM
      cases x with
      | box l =>
        cases y with
        | box m =>
          obtain ⟨bk, us, ty, e, g1, ho, g2⟩ := hb
          exact ⟨bk, us, ty, (hg N ⟨_, h1⟩).trans e, g1, ho, avle_sound hO hT hg hn h2 hlv (fun h => by cases h) g2⟩
        | _ => exact h2.elim
      | mp t0 m0 =>
        cases y with
        | mp t1 m1 =>
          obtain ⟨rfl, h2⟩ := h2
          obtain ⟨r, es, clock, e, g1, g2, gst⟩ := hb
          refine ⟨r, es, clock, (hg N ⟨_, h1⟩).trans e, g1, ?_, gst⟩
          rw [g2]
          unfold mcle at h2
          split at h2
          · obtain ⟨rfl, rfl⟩ := h2; rfl
          · subst h2; rfl
          · exact h2.elim
        | _ => exact h2.elim
      | row e0 c =>
        cases y with
        | row e1 c' =>
          obtain ⟨rfl, hc⟩ := h2
          obtain ⟨g1, g2, g3⟩ := ctle_spec hc
          rcases hb with ⟨k0, A, k1⟩ | ⟨bk, o, cap, us, k1, kp, k2, k3, k4, k5⟩
          · exact .inl ⟨by omega, A, (hg N ⟨_, h1⟩).trans k1⟩
          · refine .inr ⟨bk, o, cap, us, by rw [hg N ⟨_, h1⟩, ← g1]; exact k1, kp, by omega, k3, by rw [← g2]; exact k4, fun i j hi hj => ?_⟩
            obtain ⟨u, k6, ko, k7⟩ := k5 i j (by omega) (by omega)
            refine ⟨u, by rw [← g2]; exact k6, ko, ?_⟩
            have hcij := g3 i j (by omega) (by omega)
            unfold CellR
            cases hs' : (c'.cell i j).sub with
            | none =>
              have hsn : (c.cell i j).sub = none := by
                cases hs2 : (c.cell i j).sub with
                | none => rfl
                | some z => obtain ⟨z', hz', _⟩ := (avle_sub hcij).1 z hs2; rw [hs'] at hz'; cases hz'
              exact avle_sound hO hT hg hn hcij (fun M hM => hlv M ⟨i, j, by omega, by omega, hM⟩) (fun _ => hs') (k7.rep hsn)
            | some z' =>
              simp only
              rcases (avle_sub hcij).2 z' hs' with ⟨z, hz, _⟩ | ⟨hnl, _⟩
              · rw [k7.own hz, hg]
                exact ⟨z, at_kid h1 (by omega) (by omega) hz⟩
              · have hu := k7.rep (by rw [hnl]; rfl)
                rw [hnl] at hu
                have hu' : u = .slice none 0 0 := by simpa [Reps] using hu
                rw [hu', hn0]
                rintro ⟨z, hz⟩
                obtain ⟨e', c2, q1, q2, q3, q4⟩ := kid_at hz
                have := AtL.uniq h1 q1
                cases this
                rw [hnl] at q4; cases q4
        | _ => exact h2.elim
    · have hnl : ¬ s.lv N := h1.1
      exact .inl ⟨h3, none, hn0 N hnl⟩
  · rcases leS_at h.slots r with e | ⟨h1, h2⟩
    · rw [show t.slot r = .top from e] at hN; exact hN.elim
    · exact lvt N ((avle_has h1 N hN).imp (hs.wf.slot r N) id) (within_has h2 hN)
  · obtain ⟨y0, g1, g2⟩ := hM
    have hw := (leB_at h.store g1).2
    have hwy := within_at hw g2
    refine lvt N ?_ (withinB_has hwy hN)
    rcases C M y ⟨y0, g1, g2⟩ with ⟨x, h1, h2⟩ | ⟨_, e, c, rfl, h3⟩
    · exact (blle_has h2 N hN).imp (hs.wf.blk M x N h1) id
    · obtain ⟨k, j, hk, _⟩ := hN; omega
  · obtain ⟨y, hy⟩ := hlv
    rcases C (rt L) y hy with ⟨x, h1, _⟩ | ⟨h1, _⟩
    · rw [hg _ ⟨x, h1⟩]; exact hs.hd L hL ⟨x, h1⟩
    · rcases h1.2 with h2 | h2
      · have h3 : low ≤ L := h2; omega
      · exact absurd rfl h2
theorem St.Le.sim (h : s.Le t) (hs : Sim E s a w γ) : ∃ γ', Sim E t a w γ' := by
  obtain ⟨γ', h1, _⟩ := h.sim' hs
  exact ⟨γ', h1⟩
theorem St.Le.le (h : s.Le t) : s.le t := fun E a w ⟨γ, hs⟩ => h.sim hs
end
end Go.Proofs.YtaopjdeigpiejaaDoor
namespace Go.Proofs.YtaopjdeigpiejaaDoor
open Go.RowKit
set_option linter.unusedVariables false

/-- The frame's state at a loop's head: what the loop writes is told anew. -/
def St.inv (s : St) (wr : List Nat) (l : List (Nat × AV)) (bk : List Nat) (b : List (Nat × Option Blk)) : St :=
  ⟨l ++ s.slots.filter (fun p => !(wr.contains p.1)), b ++ s.store.filter (fun p => !(bk.contains p.1)), s.n⟩
/-- A loop: the states at its head, by an index that goes down. -/
theorem VC_loopI {P : Program} {τ : List (Nat × TyI)} (hτ : TyOk P τ) {c : Code} {K : Exit → St → Prop} {s : St} {ι : Type} (I : ι → St) (p : ι → Prop) (μ : ι → Nat) (i0 : ι) (h0 : p i0) (hs : s.Le (I i0))
    (round : ∀ i, p i → Nx (vc P τ c (seqK (fun s' => ∃ i', p i' ∧ μ i' < μ i ∧ s'.Le (I i')) K) (I i))) : VC P (.loop c) K s :=
  VC_loop hτ I p μ (fun s' i' => s'.Le (I i')) (fun s' i' h => h.le) i0 h0 hs.le round

def argSlots : Nat → AV → List (Nat × AV)
  | i, .cons a l => (i, a) :: argSlots (i + 1) l
  | _, _ => []
theorem lks_args : ∀ (l : AV) (i t : Nat) (vs : List Value) {w : World} {own : Bool → Nat → Prop} {γ : Nm → Value} {m : Md}, Reps w own γ l m vs → (lks (argSlots i l) t = .top) ∨ ∃ k, t = i + k ∧ k < l.len ∧ lks (argSlots i l) t = l.nth k := by
  intro l
  induction l with
  | cons a l iha ihl =>
    rintro i t vs w own γ m ⟨v, us, rfl, h1, h2⟩
    simp only [argSlots, lks]
    cases hb : Nat.beq i t with
    | true => exact .inr ⟨0, by have := Nat.eq_of_beq_eq_true hb; omega, by simp [AV.len], rfl⟩
    | false =>
      rcases ihl (i + 1) t us h2 with h | ⟨k, h3, h4, h5⟩
      · exact .inl h
      · exact .inr ⟨k + 1, by omega, by simp [AV.len]; omega, h5⟩
  | _ => intro i t vs w own γ m h; exact .inl rfl
def stOf : List (Nat × Blk) → List (Nat × Option Blk)
  | [] => []
  | p :: l => (p.1, some p.2) :: stOf l
theorem stOf_lkb (σ : List (Nat × Blk)) (L : Nat) : lkb (stOf σ) L = lkx σ L := by
  induction σ with
  | nil => rfl
  | cons p l ih => simp only [stOf, lkb, lkx]; rw [ih]
def St.of (args : AV) (σ : List (Nat × Blk)) (n : Nat) : St := ⟨argSlots 0 args, stOf σ, n⟩

section
variable {P : Program} {τ : List (Nat × TyI)} {E : Ent0} {w : World} {s : St} {a : Act} {γ : Nm → Value}

theorem of_at {args : AV} {σ : List (Nat × Blk)} {n : Nat} {N : Nm} {x : Blk} : (St.of args σ n).at N x ↔ AtL (lkx σ) N x := by
  have : (St.of args σ n).rblk = lkx σ := by funext L; exact stOf_lkb σ L
  unfold St.at; rw [this]
theorem sim_entry {args : AV} {σ : List (Nat × Blk)} {vs : List Value} {n : Nat} (hP : Pre E σ) (h : Reps E.w (E.ow (ownL σ E.g)) E.g args .o vs) (ha : ∀ N, args.has N → ∃ x, AtL (lkx σ) N x) (hn : vs.length ≤ n) :
    Sim E (St.of args σ n) { tmps := vs.toArray ++ Array.replicate (n - vs.toArray.size) undef, defers := [] } E.w E.g := by
  have ho : (St.of args σ n).own E.g = ownL σ E.g := by
    funext k
    exact propext ⟨fun ⟨N, x, h1, h2⟩ => ⟨N, x, of_at.1 h1, h2⟩, fun ⟨N, x, h1, h2⟩ => ⟨N, x, of_at.2 h1, h2⟩⟩
  refine ⟨by simp [St.of]; omega, rfl, fun t => ?_, fun N x hN => ?_, fun N x bk hN hb => ?_, fun N M x y bk hN hM => hP.inj N M x y bk (of_at.1 hN) (of_at.1 hM), ⟨fun t N hN => ?_, fun M x N hM hN => ?_⟩, fun L hL _ => rfl, Fr.refl _ _⟩
  · rw [ho]
    rcases lks_args args 0 t vs h with e | ⟨k, rfl, hk, e⟩
    · rw [show (St.of args σ n).slot t = .top from e]; exact ⟨_, rfl⟩
    · rw [show (St.of args σ n).slot (0 + k) = args.nth k from e]
      obtain ⟨u, h1, h2⟩ := h.nth hk
      have : (vs.toArray ++ Array.replicate (n - vs.toArray.size) undef).getD (0 + k) undef = u := by
        have hk' : k < vs.length := by rw [h.len]; exact hk
        rw [Array.getD_eq_getD_getElem?, Nat.zero_add, Array.getElem?_append_left (by simpa using hk')]
        simp [h1]
      rw [this]; exact h2
  · rw [ho]; exact hP.blks N x (of_at.1 hN)
  · exact ⟨hP.mine N x bk (of_at.1 hN) hb, .inr (by rw [hP.b]; exact ⟨N, x, of_at.1 hN, hb⟩)⟩
  · rcases lks_args args 0 t vs h with e | ⟨k, rfl, hk, e⟩
    · rw [show (St.of args σ n).slot t = .top from e] at hN; exact hN.elim
    · rw [show (St.of args σ n).slot (0 + k) = args.nth k from e] at hN
      obtain ⟨x, hx⟩ := ha N (has_nth hN)
      exact ⟨x, of_at.2 hx⟩
  · obtain ⟨y, hy⟩ := hP.wf M x N (of_at.1 hM) hN
    exact ⟨y, of_at.2 hy⟩

def resA (τ : List (Nat × TyI)) (s : St) : ResultVar → Option AV
  | .tmp t => some (s.slot t)
  | .cell a t => match ty? τ t with | some i => (match loadA s i.agg i.size (s.slot a) with | .val x => some x | _ => none) | none => none
def resAs (τ : List (Nat × TyI)) (s : St) : List ResultVar → Option AV
  | [] => some .nil
  | r :: l => match resA τ s r, resAs τ s l with | some x, some y => some (.cons x y) | _, _ => none
def resV (τ : List (Nat × TyI)) (s : St) : List ResultVar → Option AV
  | [r] => resA τ s r
  | l => match resAs τ s l with | some x => some (.tup x) | none => none

def resF (tmps : Array Value) : ResultVar → Sem Value
  | .tmp t => pure (tmps.getD t undef)
  | .cell b t => do loadVar t (← asAddr (tmps.getD b undef))
theorem results_eq (fn : Func) (tmps : Array Value) : results fn tmps = (do let vs ← fn.results.mapM (resF tmps); pure (if h : vs.size = 1 then vs[0] else .tuple vs)) := by
  unfold results
  congr 1
theorem resA_sound (hτ : TyOk P τ) (h : Sim E s a w γ) {r : ResultVar} {x : AV} (hr : resA τ s r = some x) :
    ∃ v, (resF a.tmps r).run P w = .ok v w ∧ Reps w (E.ow (s.own γ)) γ x .o [v] ∧ s.live x := by
  cases r with
  | tmp t => cases hr; exact ⟨_, rfl, h.slots t, h.wf.slot t⟩
  | cell b t =>
    simp only [resA] at hr
    split at hr
    · rename_i i hi
      split at hr
      · rename_i x' hx
        cases hr
        obtain ⟨_, u, h1, h2, h3⟩ := load_sound h (hτ _ _ hi) (h.slots b) (h.wf.slot b) (a := x) (nb := none) (by rw [hx]; exact .val)
        refine ⟨u, ?_, h2, h3⟩
        cases hv : a.tmps.getD b undef with
        | pointer ad =>
          cases ad with
          | none => rw [hv] at h1; simp [Instr.loadAt, Instr.sureAddr, stuck] at h1
          | some ad =>
            rw [hv] at h1
            simp only [resF, hv]
            simpa [Instr.loadAt, Instr.sureAddr, asAddr] using h1
        | _ => rw [hv] at h1; simp [Instr.loadAt, Instr.sureAddr, stuck] at h1
      · cases hr
    · cases hr
theorem resAs_sound (hτ : TyOk P τ) (h : Sim E s a w γ) : ∀ {l : List ResultVar} {x : AV}, resAs τ s l = some x →
    ∃ vs, (l.mapM (resF a.tmps)).run P w = .ok vs w ∧ Reps w (E.ow (s.own γ)) γ x .o vs ∧ s.live x := by
  intro l
  induction l with
  | nil => intro x hr; cases hr; exact ⟨[], by simp, rfl, fun M hM => hM.elim⟩
  | cons r l ih =>
    intro x hr
    simp only [resAs] at hr
    split at hr
    · rename_i x1 x2 e1 e2
      cases hr
      obtain ⟨v, h1, h2, h3⟩ := resA_sound (P := P) hτ h e1
      obtain ⟨vs, h4, h5, h6⟩ := ih e2
      refine ⟨v :: vs, ?_, ⟨v, vs, rfl, h2, h5⟩, fun M hM => hM.elim (h3 M) (h6 M)⟩
      rw [List.mapM_cons]
      simp only [Sem.run_bind, h1, Result.andThen_ok, h4, Sem.run_pure]
    · cases hr
theorem resAs_len : ∀ {l : List ResultVar} {x : AV}, resAs τ s l = some x → x.len = l.length := by
  intro l
  induction l with
  | nil => intro x h; cases h; rfl
  | cons r l ih =>
    intro x h
    simp only [resAs] at h
    split at h
    · rename_i x1 x2 e1 e2
      cases h
      simp [AV.len, ih e2]
    · cases h
theorem resV_sound (hτ : TyOk P τ) (h : Sim E s a w γ) {fn : Func} {x : AV} (hr : resV τ s fn.results.toList = some x) : ∃ v, (results fn a.tmps).run P w = .ok v w ∧ Reps w (E.ow (s.own γ)) γ x .o [v] ∧ s.live x := by
  have hm : ∀ {vs : List Value}, (fn.results.toList.mapM (resF a.tmps)).run P w = .ok vs w →
      (results fn a.tmps).run P w = .ok (if h : vs.toArray.size = 1 then vs.toArray[0] else .tuple vs.toArray) w := by
    intro vs hvs
    rw [results_eq, Array.mapM_eq_mapM_toList]
    simp [hvs]
  unfold resV at hr
  split at hr
  · rename_i r hl
    obtain ⟨v, h1, h2, h3⟩ := resA_sound (P := P) hτ h hr
    refine ⟨v, ?_, h2, h3⟩
    have := hm (vs := [v]) (by rw [hl, List.mapM_cons]; simp only [Sem.run_bind, h1, Result.andThen_ok, List.mapM_nil, Sem.run_pure])
    simpa using this
  · rename_i l hl
    split at hr
    · rename_i y hy
      cases hr
      obtain ⟨vs, h1, h2, h3⟩ := resAs_sound (P := P) hτ h hy
      refine ⟨.tuple vs.toArray, ?_, ⟨vs, rfl, h2⟩, h3⟩
      have hne : ¬ vs.toArray.size = 1 := by
        intro h1
        have h4 : vs.length = fn.results.toList.length := h2.len.trans (resAs_len hy)
        have h5 : fn.results.toList.length = 1 := by rw [← h4]; simpa using h1
        obtain ⟨r, hr⟩ := List.length_eq_one_iff.1 h5
        exact hl r hr
      rw [hm h1, dif_neg hne]
    · cases hr

/-- The contract's names in the function's own words. -/
def gOf : List (Nat × Nat) → Nat → Nat
  | [], L => L
  | p :: l, L => bif Nat.beq p.1 L then p.2 else gOf l L
def gN (gl : List (Nat × Nat)) (L : Nat) : Nm := rt (gOf gl L)
def gSt (gl : List (Nat × Nat)) : List (Nat × Blk) → List (Nat × Option Blk)
  | [] => []
  | p :: l => (gOf gl p.1, some (p.2.rn (gN gl))) :: gSt gl l
def ndN : List Nat → Bool
  | [] => true
  | x :: l => (l.all fun y => !Nat.beq y x) && ndN l
def lowOk (gl : List (Nat × Nat)) (σ : List (Nat × Blk)) : Bool := σ.all fun p => Nat.ble low p.1 || Nat.beq (gOf gl p.1) p.1
def newAll : List (Nat × Blk) → Prop
  | [] => True
  | p :: l => p.2.new ∧ newAll l
def withinAll (ns : List Nat) : List (Nat × Blk) → Prop
  | [] => True
  | p :: l => p.2.within ns ∧ withinAll ns l
/-- What is left at a function's end. -/
structure RetOk (s : St) (x : AV) (gl : List (Nat × Nat)) (nw : Bool) (r : AV) (σ : List (Nat × Blk)) : Prop where
  chk : (ndN (σ.map fun p => gOf gl p.1) && lowOk gl σ) = true
  le : s.Le ⟨[], gSt gl σ, s.n⟩
  val : avle s x false (r.rn (gN gl))
  within : r.within (names (stOf σ)) ∧ withinAll (names (stOf σ)) σ
  new : nw = true → r.new ∧ newAll σ
def retP (s : St) (nw : Bool) (r : AV) (σ : List (Nat × Blk)) (x : AV) : Prop := ∃ gl, RetOk s x gl nw r σ
def retK (τ : List (Nat × TyI)) (res : List ResultVar) (nw : Bool) (r : AV) (σ : List (Nat × Blk)) : Exit → St → Prop
  | .ret, s => (match resV τ s res with | some x => x.force (retP s nw r σ) | none => False)
  | .normal, s => (match resV τ s res with | some x => x.force (retP s nw r σ) | none => False)
  | _, _ => False

theorem newAll_at : ∀ {σ : List (Nat × Blk)} {L : Nat} {y : Blk}, newAll σ → lkx σ L = some y → y.new := by
  intro σ
  induction σ with
  | nil => intro L y _ h; cases h
  | cons p l ih =>
    intro L y hn h
    unfold lkx at h
    cases hb : Nat.beq p.1 L with
    | true => rw [hb] at h; cases h; exact hn.1
    | false => rw [hb] at h; exact ih hn.2 h
theorem ndN_spec {gl : List (Nat × Nat)} : ∀ {σ : List (Nat × Blk)}, ndN (σ.map fun p => gOf gl p.1) = true → ∀ {L M : Nat} {x y : Blk}, lkx σ L = some x → lkx σ M = some y → gOf gl L = gOf gl M → L = M := by
  intro σ
  induction σ with
  | nil => intro _ L M x y h; cases h
  | cons p l ih =>
    intro hn L M x y hL hM e
    simp only [List.map_cons, ndN, Bool.and_eq_true] at hn
    have inl : ∀ {K : Nat} {z : Blk}, lkx l K = some z → gOf gl K ≠ gOf gl p.1 := fun {K z} hK e1 => by
      have hm : ∃ q ∈ l, q.1 = K := by
        clear ih hn hL hM e
        induction l with
        | nil => cases hK
        | cons q l ihl =>
          unfold lkx at hK
          cases hb : Nat.beq q.1 K with
          | true => exact ⟨q, by simp, Nat.eq_of_beq_eq_true hb⟩
          | false => rw [hb] at hK; obtain ⟨q', h1, h2⟩ := ihl hK; exact ⟨q', by simp [h1], h2⟩
      obtain ⟨q, h1, h2⟩ := hm
      have := (List.all_eq_true.1 hn.1) (gOf gl q.1) (List.mem_map.2 ⟨q, h1, rfl⟩)
      rw [h2, e1, Nat.beq_refl] at this; cases this
    unfold lkx at hL hM
    cases hb : Nat.beq p.1 L with
    | true =>
      have e1 := Nat.eq_of_beq_eq_true hb
      cases hc : Nat.beq p.1 M with
      | true => exact e1.symm.trans (Nat.eq_of_beq_eq_true hc)
      | false => rw [hc] at hM; exact absurd (by rw [← e, e1]) (inl hM)
    | false =>
      rw [hb] at hL
      cases hc : Nat.beq p.1 M with
      | true => exact absurd (by rw [e, Nat.eq_of_beq_eq_true hc]) (inl hL)
      | false => rw [hc] at hM; exact ih hn.2 hL hM e
theorem gSt_lkb {gl : List (Nat × Nat)} : ∀ {σ : List (Nat × Blk)}, ndN (σ.map fun p => gOf gl p.1) = true → ∀ {L : Nat} {x : Blk}, lkx σ L = some x → lkb (gSt gl σ) (gOf gl L) = some (x.rn (gN gl)) := by
  intro σ
  induction σ with
  | nil => intro _ L x h; cases h
  | cons p l ih =>
    intro hn L x hL
    have hn0 := hn
    simp only [List.map_cons, ndN, Bool.and_eq_true] at hn
    have hL0 := hL
    unfold lkx at hL
    simp only [gSt, lkb]
    cases hb : Nat.beq p.1 L with
    | true => rw [hb] at hL; cases hL; rw [Nat.eq_of_beq_eq_true hb, Nat.beq_refl]; rfl
    | false =>
      rw [hb] at hL
      have hne : gOf gl p.1 ≠ gOf gl L := fun e => by
        have := ndN_spec hn0 (L := p.1) (M := L) (x := p.2) (y := x) (by simp [lkx]) hL0 e
        rw [this, Nat.beq_refl] at hb; cases hb
      rw [beq_ne hne]
      exact ih hn.2 hL
theorem lowOk_spec {gl : List (Nat × Nat)} : ∀ {σ : List (Nat × Blk)}, lowOk gl σ = true → ∀ {L : Nat} {x : Blk}, L < low → lkx σ L = some x → gOf gl L = L := by
  intro σ
  induction σ with
  | nil => intro _ L x _ h; cases h
  | cons p l ih =>
    intro hn L x hlow hL
    have hn' : (Nat.ble low p.1 || Nat.beq (gOf gl p.1) p.1) = true ∧ lowOk gl l = true := by simpa [lowOk] using hn
    unfold lkx at hL
    cases hb : Nat.beq p.1 L with
    | true =>
      have e := Nat.eq_of_beq_eq_true hb
      have h9 := hn'.1
      simp only [Bool.or_eq_true] at h9
      rcases h9 with h1 | h1
      · have := Nat.le_of_ble_eq_true h1; omega
      · rw [← e]; exact Nat.eq_of_beq_eq_true h1
    | false => rw [hb] at hL; exact ih hn'.2 hlow hL

theorem names_gSt {gl : List (Nat × Nat)} : ∀ {σ : List (Nat × Blk)} {L : Nat}, L ∈ names (stOf σ) → gOf gl L ∈ names (gSt gl σ) := by
  intro σ
  induction σ with
  | nil => intro L h; cases h
  | cons p l ih =>
    intro L h
    simp only [stOf, names] at h
    simp only [gSt, names]
    rcases List.mem_cons.1 h with rfl | h
    · simp
    · exact List.mem_cons_of_mem _ (ih h)
theorem names_stOf : ∀ {σ : List (Nat × Blk)} {L : Nat}, L ∈ names (stOf σ) → (lkx σ L).isSome = true := by
  intro σ
  induction σ with
  | nil => intro L h; cases h
  | cons p l ih =>
    intro L h
    simp only [stOf, names] at h
    unfold lkx
    cases hb : Nat.beq p.1 L with
    | true => rfl
    | false =>
      rcases List.mem_cons.1 h with rfl | h
      · rw [Nat.beq_refl] at hb; cases hb
      · exact ih h
theorem within_rn {gl : List (Nat × Nat)} {ns ns' : List Nat} (h : ∀ L ∈ ns, gOf gl L ∈ ns') : ∀ {a : AV}, a.within ns → (a.rn (gN gl)).within ns' := by
  intro a
  induction a with
  | cons a l iha ihl => exact fun h => ⟨iha h.1, ihl h.2⟩
  | agg l ih => exact ih
  | tup l ih => exact ih
  | fn f l ih => exact ih
  | op N j => intro h1; have h2 : ns.contains N.r = true := h1; show ns'.contains (gOf gl N.r) = true; simp at h2 ⊢; exact h _ h2
  | om N => intro h1; have h2 : ns.contains N.r = true := h1; show ns'.contains (gOf gl N.r) = true; simp at h2 ⊢; exact h _ h2
  | os N => intro h1; have h2 : ns.contains N.r = true := h1; show ns'.contains (gOf gl N.r) = true; simp at h2 ⊢; exact h _ h2
  | oe N st k j => intro h1; have h2 : ns.contains N.r = true := h1; show ns'.contains (gOf gl N.r) = true; simp at h2 ⊢; exact h _ h2
  | ow e n st cell ih => exact fun h i j hi hj => ih i j (h i j hi hj)
  | _ => exact fun h => h
theorem withinAll_at {ns : List Nat} : ∀ {σ : List (Nat × Blk)} {L : Nat} {y : Blk}, withinAll ns σ → lkx σ L = some y → y.within ns := by
  intro σ
  induction σ with
  | nil => intro L y _ h; cases h
  | cons p l ih =>
    intro L y hn h
    unfold lkx at h
    cases hb : Nat.beq p.1 L with
    | true => rw [hb] at h; cases h; exact hn.1
    | false => rw [hb] at h; exact ih hn.2 h
theorem RetOk.named {s : St} {x : AV} {gl : List (Nat × Nat)} {nw : Bool} {r : AV} {σ : List (Nat × Blk)} (h : RetOk s x gl nw r σ) (M : Nm) (y : Blk) (N : Nm) (hM : AtL (lkx σ) M y) (hN : y.has N) : (lkx σ N.r).isSome = true := by
  obtain ⟨y0, k1, k2⟩ := hM
  exact names_stOf (withinB_has (within_at (withinAll_at h.within.2 k1) k2) hN)
theorem RetOk.namedR {s : St} {x : AV} {gl : List (Nat × Nat)} {nw : Bool} {r : AV} {σ : List (Nat × Blk)} (h : RetOk s x gl nw r σ) (N : Nm) (hN : r.has N) : (lkx σ N.r).isSome = true := names_stOf (within_has h.within.1 hN)
theorem Fn_of {f : Nat} {nw : Bool} {fn : Func} {c : Code} {args r : AV} {σ σ' : List (Nat × Blk)} (hτ : TyOk P τ) (hf : P.funcs[f]? = some fn) (hn : (fn.name == "runtime.NumGoroutine") = false) (hb : fn.body = some c) (hl : args.len ≤ fn.ntmps)
    (hv : Nx (vc P τ c (retK τ fn.results.toList nw r σ') (St.of args σ fn.ntmps))) : Fn P f nw args σ r σ' := by
  refine ⟨⟨fn, c, hf, hn, hb⟩, fun E vs hP hr ha => ?_⟩
  refine calls_of_wp hf hb ?_
  have hlen : vs.length ≤ fn.ntmps := by rw [hr.len]; exact hl
  refine wp_mono ((vc_sound hτ c _ _ hv.out).run E _ E.w ⟨E.g, sim_entry hP hr ha hlen⟩) ?_
  have fin : ∀ a' w' s', (match resV τ s' fn.results.toList with | some x => x.force (retP s' nw r σ') | none => False) → Den E s' a' w' →
      a'.defers = [] ∧ ∃ v, (results fn a'.tmps).run P w' = .ok v w' ∧ ∃ v' γ, Ending.returned v = .returned v' ∧ Fr E.b E.w w' ∧ Post E nw w' σ' γ ∧ Reps w' (E.ow (ownL σ' γ)) γ r .o [v'] ∧ (nw = true → r.new) ∧ ∀ N, r.has N → ∃ x, AtL (lkx σ') N x := by
    intro a' w' s' hK hd
    obtain ⟨γ, hs⟩ := hd
    split at hK
    · rename_i x hx
      rw [force_eq] at hK
      obtain ⟨gl, hok⟩ := hK
      obtain ⟨v, h1, h2, h3⟩ := resV_sound (P := P) hτ hs hx
      obtain ⟨γ', hS, hR, hLv⟩ := hok.le.sim' hs
      have hchk := hok.chk
      simp only [Bool.and_eq_true] at hchk
      obtain ⟨hnd, hlo⟩ := hchk
      -- the contract's names
      have atT : ∀ M y, AtL (lkx σ') M y → (⟨[], gSt gl σ', s'.n⟩ : St).at (M.rn (gN gl)) (y.rn (gN gl)) := by
        rintro M y ⟨x0, k1, k2⟩
        have k3 := gSt_lkb hnd k1
        refine ⟨x0.rn (gN gl), ?_, ?_⟩
        · show lkb (gSt gl σ') (gN gl M.r).r = _
          exact k3
        · show (x0.rn (gN gl)).At ((gN gl M.r).p ++ M.p) _
          exact at_rn.2 ⟨y, k2, rfl⟩
      have injM : ∀ M M' y y', AtL (lkx σ') M y → AtL (lkx σ') M' y' → M.rn (gN gl) = M'.rn (gN gl) → M = M' := by
        rintro ⟨m, p⟩ ⟨m', p'⟩ y y' ⟨x0, k1, _⟩ ⟨x0', k1', _⟩ e
        have e1 : gOf gl m = gOf gl m' := congrArg Nm.r e
        have e2 : p = p' := by have := congrArg Nm.p e; simpa [Nm.rn, gN] using this
        have e3 := ndN_spec hnd k1 k1' e1
        subst e2
        have e4 : m = m' := e3
        rw [e4]
      have sub : ∀ b, ownL σ' (fun N => γ' (N.rn (gN gl))) b → (⟨[], gSt gl σ', s'.n⟩ : St).own γ' b := fun b ⟨M, y, hM, hb⟩ => ⟨_, _, atT M y hM, hb⟩
      have K : Keeps w' w' (E.ow ((⟨[], gSt gl σ', s'.n⟩ : St).own γ')) (E.ow (ownL σ' (fun N => γ' (N.rn (gN gl))))) := ⟨Nat.le_refl _, fun _ _ _ _ => rfl, fun f b _ h4 h5 => h4 (h5.imp (sub b) id)⟩
      have val := hR x _ [v] hok.val h3 h2
      -- names that are live
      have live' : ∀ N : Nm, (⟨[], gSt gl σ', s'.n⟩ : St).lv (N.rn (gN gl)) → (lkx σ' N.r).isSome = true → ∃ z, AtL (lkx σ') N z := by
        rintro N ⟨z, x0, k1, k2⟩ hsome
        obtain ⟨y0, hy0⟩ := Option.isSome_iff_exists.1 hsome
        have k3 := gSt_lkb hnd hy0
        have k1' : lkb (gSt gl σ') (gOf gl N.r) = some x0 := k1
        rw [k3] at k1'
        cases k1'
        have k2' : (y0.rn (gN gl)).At N.p z := k2
        obtain ⟨y, hy, _⟩ := at_rn.1 k2'
        exact ⟨y, y0, hy0, hy⟩
      refine ⟨hs.defers, v, h1, v, fun N => γ' (N.rn (gN gl)), rfl, hs.fr, ?_, (Reps.rn.1 val).keep K, fun h => (hok.new h).1, ?_⟩
      · refine ⟨fun N x hN => ⟨?_, fun h => ?_⟩, fun N x bk hN hb => hS.mine _ _ bk (atT N x hN) hb, fun N M x y bk hN hM hb hc => injM N M x y hN hM (hS.inj _ _ _ _ bk (atT N x hN) (atT M y hM) hb hc), fun M x N hM hN => ?_, fun L x hL hx => ?_⟩
        · exact (BlkOk.rn.1 (hS.blks _ _ (atT N x hN))).keep K rfl (fun _ _ => rfl) (fun _ _ _ _ _ _ _ _ => rfl) (fun _ _ => rfl)
        · obtain ⟨x0, k1, k2⟩ := hN
          exact new_at (newAll_at (hok.new h).2 k1) k2
        · have hlv := hS.wf.blk _ _ (N.rn (gN gl)) (atT M x hM) (hasB_rn.2 ⟨N, hN, rfl⟩)
          exact live' N hlv (hok.named M x N hM hN)
        · show γ' ((rt L).rn (gN gl)) = E.g (rt L)
          have e : (rt L).rn (gN gl) = rt L := by
            rw [rn_rt]; show rt (gOf gl L) = rt L; rw [lowOk_spec hlo hL hx]
          have hlv : (⟨[], gSt gl σ', s'.n⟩ : St).lv (rt L) := by
            have := atT (rt L) x ⟨x, hx, rfl⟩
            rw [e] at this; exact ⟨_, this⟩
          rw [e]; exact hS.hd L hL hlv
      · intro N hN
        have hlv := hLv x _ hok.val h3 (within_rn (fun L hL => names_gSt hL) hok.within.1) (N.rn (gN gl)) (has_rn.2 ⟨N, hN, rfl⟩)
        exact live' N hlv (hok.namedR N hN)
    · exact hK.elim
  rintro e a' w' ⟨s', hK, hd⟩
  cases e with
  | normal => exact fin a' w' s' hK hd
  | ret => exact fin a' w' s' hK hd
  | _ => exact hK.elim
end
end Go.Proofs.YtaopjdeigpiejaaDoor
