/-
  Two names exchanged; loops whose rounds give a block another name.
-/
import Derived.Test.YtdfgaimchmdpeaaCz
namespace Go.Proofs.Ytdfgaimchmdpeaa
open Go.RowKit
set_option linter.unusedVariables false

def sw (L L' n : Nat) : Nat := bif Nat.beq n L then L' else bif Nat.beq n L' then L else n
theorem sw_sw (L L' n : Nat) : sw L L' (sw L L' n) = n := by
  unfold sw
  by_cases h1 : n = L
  · subst h1
    simp only [Nat.beq_refl, cond_true]
    by_cases h2 : L' = n
    · subst h2; simp
    · simp [beq_ne h2]
  · by_cases h2 : n = L'
    · subst h2; simp [beq_ne h1]
    · simp [beq_ne h1, beq_ne h2]
theorem sw_beq (L L' a b : Nat) : Nat.beq (sw L L' a) b = Nat.beq a (sw L L' b) := by
  by_cases h : a = sw L L' b
  · rw [h, sw_sw, Nat.beq_refl, Nat.beq_refl]
  · rw [beq_ne h, beq_ne (fun e => h (by rw [← e, sw_sw]))]
theorem sw_low {L L' n : Nat} (h : low ≤ L) (h' : low ≤ L') (hn : n < low) : sw L L' n = n := by
  unfold sw
  rw [beq_ne (by omega), beq_ne (by omega)]; rfl
def swN (L L' : Nat) (n : Nat) : Nm := rt (sw L L' n)
theorem swN_swN (L L' : Nat) (N : Nm) : (N.rn (swN L L')).rn (swN L L') = N := by
  obtain ⟨r, p⟩ := N
  simp [Nm.rn, swN, sw_sw]
def swapSl (ρ : Nat → Nm) : List (Nat × AV) → List (Nat × AV)
  | [] => []
  | p :: l => (p.1, p.2.rn ρ) :: swapSl ρ l
def swapBl (L L' : Nat) : List (Nat × Option Blk) → List (Nat × Option Blk)
  | [] => []
  | p :: l => (sw L L' p.1, (match p.2 with | some x => some (x.rn (swN L L')) | none => none)) :: swapBl L L' l
def St.swap (s : St) (L L' : Nat) : St := ⟨swapSl (swN L L') s.slots, swapBl L L' s.store, s.n⟩
theorem lks_swap {ρ : Nat → Nm} : ∀ {l : List (Nat × AV)} {t : Nat}, lks (swapSl ρ l) t = (lks l t).rn ρ := by
  intro l t
  induction l with
  | nil => rfl
  | cons p l ih =>
    unfold swapSl lks
    cases Nat.beq p.1 t with
    | true => rfl
    | false => exact ih
theorem lkb_swap {L L' : Nat} : ∀ {l : List (Nat × Option Blk)} {t : Nat}, lkb (swapBl L L' l) t = (lkb l (sw L L' t)).map (Blk.rn (swN L L')) := by
  intro l t
  induction l with
  | nil => rfl
  | cons p l ih =>
    obtain ⟨k, x⟩ := p
    show (bif Nat.beq (sw L L' k) t then _ else lkb (swapBl L L' l) t) = Option.map _ (bif Nat.beq k (sw L L' t) then x else lkb l (sw L L' t))
    rw [sw_beq]
    cases Nat.beq k (sw L L' t) with
    | true => cases x <;> rfl
    | false => exact ih
section
variable {E : Ent0} {w : World} {s : St} {a : Act} {γ : Nm → Value} {L L' : Nat}
theorem at_swap {N : Nm} {z : Blk} : (s.swap L L').at N z ↔ ∃ y, s.at (N.rn (swN L L')) y ∧ z = y.rn (swN L L') := by
  have e : (s.swap L L').rblk N.r = (s.rblk (sw L L' N.r)).map (Blk.rn (swN L L')) := lkb_swap
  have e2 : (N.rn (swN L L')).p = N.p := by simp [Nm.rn, swN]
  have e3 : (N.rn (swN L L')).r = sw L L' N.r := rfl
  unfold St.at AtL
  rw [e, e2, e3]
  constructor
  · rintro ⟨x, h1, h2⟩
    cases hx : s.rblk (sw L L' N.r) with
    | none => rw [hx] at h1; cases h1
    | some x0 =>
      rw [hx] at h1
      cases h1
      obtain ⟨y, h3, h4⟩ := at_rn.1 h2
      exact ⟨y, ⟨x0, rfl, h3⟩, h4⟩
  · rintro ⟨y, ⟨x0, h1, h3⟩, h4⟩
    exact ⟨x0.rn _, by rw [h1]; rfl, at_rn.2 ⟨y, h3, h4⟩⟩
theorem swap_own : (s.swap L L').own (fun N => γ (N.rn (swN L L'))) = s.own γ := by
  funext bk
  apply propext
  constructor
  · rintro ⟨N, x, h1, h2⟩
    obtain ⟨y, h3, _⟩ := at_swap.1 h1
    exact ⟨_, y, h3, h2⟩
  · rintro ⟨N, x, h1, h2⟩
    refine ⟨N.rn (swN L L'), x.rn (swN L L'), at_swap.2 ⟨x, by rw [swN_swN]; exact h1, rfl⟩, ?_⟩
    show blkOf (γ ((N.rn (swN L L')).rn (swN L L'))) = _
    rw [swN_swN]; exact h2
theorem gam_swap : (fun N => (fun M => γ (M.rn (swN L L'))) (N.rn (swN L L'))) = γ := by
  funext N
  show γ _ = _
  rw [swN_swN]
theorem rn_rn : ∀ {N M : Nm}, N.rn (swN L L') = M → N = M.rn (swN L L') := by
  rintro N M rfl
  rw [swN_swN]
theorem lv_swap {N : Nm} : (s.swap L L').lv N ↔ s.lv (N.rn (swN L L')) := by
  constructor
  · rintro ⟨x, h⟩
    obtain ⟨y, h3, _⟩ := at_swap.1 h
    exact ⟨y, h3⟩
  · rintro ⟨y, h⟩
    exact ⟨_, at_swap.2 ⟨y, h, rfl⟩⟩
theorem Sim.swap (h : Sim E s a w γ) (hL : low ≤ L) (hL' : low ≤ L') : Sim E (s.swap L L') a w (fun N => γ (N.rn (swN L L'))) := by
  refine ⟨h.size, h.defers, fun t => ?_, fun N x hN => ?_, fun N x bk hN hb => ?_, fun N M x y bk hN hM hb hc => ?_, ⟨fun t N hN => ?_, fun M x N hM hN => ?_⟩, fun l hl hv => ?_, h.fr⟩
  · rw [swap_own]
    show Reps w _ _ (lks (swapSl _ _) t) .o _
    rw [lks_swap, Reps.rn, gam_swap]
    exact h.slots t
  · obtain ⟨y, h1, rfl⟩ := at_swap.1 hN
    rw [swap_own]
    have e : N = (N.rn (swN L L')).rn (swN L L') := (swN_swN L L' N).symm
    rw [e, BlkOk.rn, gam_swap]
    exact h.blks _ _ h1
  · obtain ⟨y, h1, rfl⟩ := at_swap.1 hN
    exact h.mine _ _ bk h1 hb
  · obtain ⟨x', h1, rfl⟩ := at_swap.1 hN
    obtain ⟨y', h2, rfl⟩ := at_swap.1 hM
    have := h.inj _ _ _ _ bk h1 h2 hb hc
    have := congrArg (fun K => K.rn (swN L L')) this
    simpa [swN_swN] using this
  · have hN' : ((lks s.slots t).rn (swN L L')).has N := by rw [← lks_swap]; exact hN
    obtain ⟨M, h1, rfl⟩ := has_rn.1 hN'
    exact lv_swap.2 (by rw [swN_swN]; exact h.wf.slot t M h1)
  · obtain ⟨y, h1, rfl⟩ := at_swap.1 hM
    obtain ⟨M', h2, rfl⟩ := hasB_rn.1 hN
    exact lv_swap.2 (by rw [swN_swN]; exact h.wf.blk _ _ M' h1 h2)
  · have e : (rt l).rn (swN L L') = rt l := by rw [rn_rt]; show rt (sw L L' l) = _; rw [sw_low hL hL' hl]
    show γ ((rt l).rn (swN L L')) = _
    rw [e]
    exact h.hd l hl (by have := lv_swap.1 hv; rwa [e] at this)
theorem St.le_swap (hL : low ≤ L) (hL' : low ≤ L') : s.le (s.swap L L') := fun _ _ _ ⟨_, hs⟩ => ⟨_, hs.swap hL hL'⟩
end
def St.swaps (s : St) : List (Nat × Nat) → St
  | [] => s
  | p :: l => (s.swap p.1 p.2).swaps l
def swOk : List (Nat × Nat) → Bool
  | [] => true
  | p :: l => Nat.ble low p.1 && Nat.ble low p.2 && swOk l
theorem le_swaps : ∀ {l : List (Nat × Nat)} {s : St}, swOk l = true → s.le (s.swaps l)
  | [], s, _ => fun _ _ _ h => h
  | p :: l, s, h => by
    simp only [swOk, Bool.and_eq_true] at h
    intro E a w hd
    exact le_swaps h.2 E a w (St.le_swap (Nat.le_of_ble_eq_true h.1.1) (Nat.le_of_ble_eq_true h.1.2) E a w hd)
/-- A loop; at a round's end names are exchanged. -/
theorem loopW {P : Program} {τ : List (Nat × TyI)} (hτ : TyOk P τ) {c : Code} {K : Exit → St → Prop} {s : St} {ι : Type} (kl : List Nat) (l : ι → List (Nat × AV)) (b : ι → List (Nat × Option Blk)) (p : ι → Prop) (μ : ι → Nat) (i0 : ι) (h0 : p i0) (hs : (s.hd (dsts c) kl (l i0) (b i0)).force fun t => s.Le t)
    (round : ∀ i, p i → Nx ((s.hd (dsts c) kl (l i) (b i)).force fun t => vc P τ c (seqK (fun s' => ∃ i', p i' ∧ μ i' < μ i ∧ ∃ q, swOk q = true ∧ (s'.swaps q).force fun u => (s.hd (dsts c) kl (l i') (b i')).force fun t' => u.Le t') K) t)) : VC P (.loop c) K s := by
  simp only [forceS_eq] at hs round
  refine VC_loop hτ (fun i => s.hd (dsts c) kl (l i) (b i)) p μ (fun s' i' => ∃ q, swOk q = true ∧ (s'.swaps q).Le (s.hd (dsts c) kl (l i') (b i'))) ?_ i0 h0 hs.le round
  rintro s' i' ⟨q, h1, h2⟩ E a w hd
  exact h2.le E a w (le_swaps h1 E a w hd)
theorem VC_swaps {P : Program} {c : Code} {K : Exit → St → Prop} {s : St} (q : List (Nat × Nat)) (hq : swOk q = true) (h : (s.swaps q).force fun u => VC P c K u) : VC P c K s := by
  rw [forceS_eq] at h
  exact VC.le (le_swaps hq) h
end Go.Proofs.Ytdfgaimchmdpeaa
