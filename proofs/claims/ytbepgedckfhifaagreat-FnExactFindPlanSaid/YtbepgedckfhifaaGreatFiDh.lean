/-
  The slices of one row's cells, which another row's cells speak of, are given to these; loops at whose rounds' ends that is done.
-/
import Derived.Test.YtbepgedckfhifaaGreatFiVC
namespace Go.Proofs.YtbepgedckfhifaaGreat
open Go.RowKit
set_option linter.unusedVariables false
def St.mvA (s : St) (N D n0 : Nat) : St :=
  match s.rblk N, s.rblk D with
  | some (.row e c), some (.row _ cD) => ((s.kill (atR D)).setB D none).setB N (some (.row e (.tab c.len 1 fun k l => bif Nat.blt k n0 then (c.cell k l).kill (atR D) else (cD.cell (k - n0) l).kill (atR D))))
  | _, _ => s
def mvaN (N D n0 : Nat) (X : Nm) : Nm := if X.r = N then (match X.p with | [] => X | (k, l) :: r => if n0 ≤ k then ⟨D, (k - n0, l) :: r⟩ else X) else X
section
variable {E : Ent0} {w : World} {s : St} {act : Act} {γ : Nm → Value}
theorem blt_noA {k n : Nat} (h : n ≤ k) : Nat.blt k n = false := by
  cases hb : Nat.blt k n with
  | false => rfl
  | true => have := blt_pos hb; omega
theorem Sim.mvA (h : Sim E s act w γ) {N D n0 : Nat} {e eD : TypeId} {c cD : Ct} (hN : s.rblk N = some (.row e c)) (hD : s.rblk D = some (.row eD cD)) (hND : N ≠ D) (hst : c.st = 1) (hstD : cD.st = 1) (hlen : c.len = n0 + cD.len)
    (hc : ∀ j, j < cD.len → c.cell (n0 + j) 0 = .os ⟨D, [(j, 0)]⟩) (hsub : ∀ j, j < cD.len → (cD.cell j 0).sub.isSome = true) : ∃ γ', Sim E (s.mvA N D n0) act w γ' := by
  have hNat : s.at (rt N) (.row e c) := at_root.2 hN
  have hDat : s.at (rt D) (.row eD cD) := at_root.2 hD
  let cell' : Nat → Nat → AV := fun k l => bif Nat.blt k n0 then (c.cell k l).kill (atR D) else (cD.cell (k - n0) l).kill (atR D)
  have es : s.mvA N D n0 = ((s.kill (atR D)).setB D none).setB N (some (.row e (.tab c.len 1 cell'))) := by
    unfold St.mvA; rw [hN, hD]
  have c1 : ∀ {k l}, k < n0 → cell' k l = (c.cell k l).kill (atR D) := fun {k l} h => by show (bif Nat.blt k n0 then _ else _) = _; rw [blt_of h]; rfl
  have c2 : ∀ {k l}, n0 ≤ k → cell' k l = (cD.cell (k - n0) l).kill (atR D) := fun {k l} h => by show (bif Nat.blt k n0 then _ else _) = _; rw [blt_noA h]; rfl
  have g0 : mvaN N D n0 (rt N) = rt N := by simp [mvaN]
  have g1 : ∀ {X : Nm}, X.r ≠ N → mvaN N D n0 X = X := fun hX => if_neg hX
  have g2 : ∀ {k l : Nat} {r : List (Nat × Nat)}, k < n0 → mvaN N D n0 ⟨N, (k, l) :: r⟩ = ⟨N, (k, l) :: r⟩ := fun {k l r} h => by
    unfold mvaN
    rw [if_pos rfl]
    show (if n0 ≤ k then _ else _) = _
    rw [if_neg (by omega)]
  have g3 : ∀ {k l : Nat} {r : List (Nat × Nat)}, n0 ≤ k → mvaN N D n0 ⟨N, (k, l) :: r⟩ = ⟨D, (k - n0, l) :: r⟩ := fun {k l r} h => by
    unfold mvaN
    rw [if_pos rfl]
    show (if n0 ≤ k then _ else _) = _
    rw [if_pos h]
  -- what lies where
  have cs : ∀ {X z}, (s.mvA N D n0).at X z → (X = rt N ∧ z = .row e (.tab c.len 1 cell')) ∨ (∃ k l r z0, X = ⟨N, (k, l) :: r⟩ ∧ n0 ≤ k ∧ s.at ⟨D, (k - n0, l) :: r⟩ z0 ∧ z = z0.kill (atR D)) ∨
      (X.r ≠ D ∧ X ≠ rt N ∧ (∀ k l r, X = ⟨N, (k, l) :: r⟩ → k < n0) ∧ ∃ z0, s.at X z0 ∧ z = z0.kill (atR D)) := by
    intro X z hX
    rw [es] at hX
    by_cases e1 : N = X.r
    · obtain ⟨r, p⟩ := X
      have e1 : N = r := e1
      subst e1
      have h1 := at_setB_eq.1 hX
      cases p with
      | nil => cases h1; exact .inl ⟨rfl, rfl⟩
      | cons q p =>
        obtain ⟨k, l⟩ := q
        obtain ⟨e', c', y', he, k1, k2, k3, k4⟩ := h1
        cases he
        have k1 : k < c.len := k1
        have k2 : l < 1 := k2
        have k3 : (cell' k l).sub = some y' := k3
        rcases Nat.lt_or_ge k n0 with hk | hk
        · rw [c1 hk, sub_kill] at k3
          cases h5 : (c.cell k l).sub with
          | none => rw [h5] at k3; cases k3
          | some y0 =>
            rw [h5] at k3
            cases k3
            obtain ⟨z0, h6, h7⟩ := at_kill.1 k4
            exact .inr (.inr ⟨hND, fun e => (by cases e), fun k' l' r' e => by cases e; exact hk, z0, ⟨_, hN, e, c, y0, rfl, k1, by rw [hst]; exact k2, h5, h6⟩, h7⟩)
        · rw [c2 hk, sub_kill] at k3
          cases h5 : (cD.cell (k - n0) l).sub with
          | none => rw [h5] at k3; cases k3
          | some y0 =>
            rw [h5] at k3
            cases k3
            obtain ⟨z0, h6, h7⟩ := at_kill.1 k4
            exact .inr (.inl ⟨k, l, p, z0, rfl, hk, ⟨_, hD, eD, cD, y0, rfl, by omega, by rw [hstD]; exact k2, h5, h6⟩, h7⟩)
    · rw [at_setB_ne e1] at hX
      obtain ⟨h3, h4⟩ := at_setNone.1 hX
      obtain ⟨z0, h5, h6⟩ := of_kill.1 h4
      exact .inr (.inr ⟨h3, fun e => e1 (by rw [e]), fun k l r e => absurd (by rw [e]) e1, z0, h5, h6⟩)
  -- names that are left
  have nok : ∀ {X}, s.lv X → X.r ≠ D → X = rt N ∨ X.r ≠ N ∨ ∃ k l r, X = ⟨N, (k, l) :: r⟩ ∧ k < n0 := by
    rintro ⟨r, p⟩ ⟨z, hz⟩ hX
    by_cases e1 : r = N
    · subst e1
      cases p with
      | nil => exact .inl rfl
      | cons q p =>
        obtain ⟨k, l⟩ := q
        obtain ⟨x, hx, e', c', y', he, k1, k2, k3, k4⟩ := hz
        rw [show s.rblk r = some x from hx] at hN
        cases hN
        cases he
        refine .inr (.inr ⟨k, l, p, rfl, ?_⟩)
        rcases Nat.lt_or_ge k n0 with hk | hk
        · exact hk
        · have hl : l = 0 := by rw [hst] at k2; omega
          have := hc (k - n0) (by omega)
          rw [show n0 + (k - n0) = k by omega] at this
          rw [hl, this] at k3
          cases k3
    · exact .inr (.inl e1)
  have gm : ∀ {X}, s.lv X → X.r ≠ D → mvaN N D n0 X = X := fun {X} hX hD' => by
    rcases nok hX hD' with rfl | h1 | ⟨k, l, r, rfl, h1⟩
    · exact g0
    · exact g1 h1
    · exact g2 h1
  have lv : ∀ {X}, s.lv X → X.r ≠ D → (s.mvA N D n0).lv X := by
    intro X hX hXD
    rw [es]
    rcases nok hX hXD with rfl | h1 | ⟨k, l, r, rfl, h1⟩
    · exact ⟨_, at_setB_eq.2 rfl⟩
    · obtain ⟨z, hz⟩ := hX
      exact ⟨_, (at_setB_ne (Ne.symm h1)).2 (at_setNone.2 ⟨hXD, of_kill.2 ⟨z, hz, rfl⟩⟩)⟩
    · obtain ⟨z, x, hx, e', c', y', he, k1, k2, k3, k4⟩ := hX
      rw [show s.rblk N = some x from hx] at hN
      cases hN
      cases he
      refine ⟨z.kill (atR D), at_setB_eq.2 ⟨e, _, y'.kill (atR D), rfl, k1, by rw [hst] at k2; exact k2, ?_, at_kill.2 ⟨z, k4, rfl⟩⟩⟩
      show (cell' k l).sub = _
      rw [c1 h1, sub_kill, k3]; rfl
  have back : ∀ {X z}, (s.mvA N D n0).at X z → ∃ z0, s.at (mvaN N D n0 X) z0 := fun {X z} hX => by
    rcases cs hX with ⟨rfl, _⟩ | ⟨k, l, r, z0, rfl, h1, h2, _⟩ | ⟨h1, h2, h3, z0, h4, _⟩
    · exact ⟨_, by rw [g0]; exact hNat⟩
    · exact ⟨z0, by rw [g3 h1]; exact h2⟩
    · exact ⟨z0, by rw [gm ⟨z0, h4⟩ h1]; exact h4⟩
  have pv : ∀ X x', (s.mvA N D n0).at X x' → ∀ bk, blkOf (γ (mvaN N D n0 X)) = some bk → (w.heap.size ≤ bk ∧ bk < w.heap.size) ∨ s.own γ bk := fun X z hX bk hb => by
    obtain ⟨z0, h1⟩ := back hX
    exact .inr ⟨_, z0, h1, hb⟩
  have hk0 := h.kill (atR D)
  refine ⟨fun X => γ (mvaN N D n0 X), h.build (Step.same _ w) (by rw [es]; exact h.size) h.defers pv (fun X M u v bk hX hM hb hc' => ?_) (fun hk t => ?_) (fun hk X z hX => ?_) ⟨fun t M hM => ?_, fun M z X hM hX => ?_⟩ (fun L' hL' hl => ?_)⟩
  · obtain ⟨z0, h1⟩ := back hX
    obtain ⟨z1, h3⟩ := back hM
    have e1 := h.inj _ _ _ _ bk h1 h3 hb hc'
    rcases cs hX with ⟨rfl, _⟩ | ⟨k, l, r, _, rfl, h5, _⟩ | ⟨h5, _, _, z2, h6, _⟩ <;> rcases cs hM with ⟨rfl, _⟩ | ⟨k', l', r', _, rfl, h5', _⟩ | ⟨h5', _, _, z2', h6', _⟩
    · rfl
    · rw [g0, g3 h5'] at e1; exact absurd (congrArg Nm.r e1) hND
    · rw [g0, gm ⟨_, h6'⟩ h5'] at e1; exact e1
    · rw [g0, g3 h5] at e1; exact absurd (congrArg Nm.r e1).symm hND
    · rw [g3 h5, g3 h5'] at e1
      have e2 := congrArg Nm.p e1
      simp only [List.cons.injEq, Prod.mk.injEq] at e2
      obtain ⟨⟨e3, e4⟩, e5⟩ := e2
      have : k = k' := by omega
      rw [this, e4, e5]
    · rw [g3 h5, gm ⟨_, h6'⟩ h5'] at e1; exact absurd (congrArg Nm.r e1).symm h5'
    · rw [gm ⟨_, h6⟩ h5, g0] at e1; exact e1
    · rw [gm ⟨_, h6⟩ h5, g3 h5'] at e1; exact absurd (congrArg Nm.r e1) h5
    · rw [gm ⟨_, h6⟩ h5, gm ⟨_, h6'⟩ h5'] at e1; exact e1
  · have es2 : (s.mvA N D n0).slot t = (s.kill (atR D)).slot t := by rw [es]; rfl
    rw [es2]
    have := hk0.slots t
    rw [own_kill] at this
    rw [slot_kill] at this ⊢
    exact (this.keep hk).gam (fun _ M hM => by rw [gm (h.wf.slot t M (has_kill hM).1) (atR_ne (has_kill hM).2)])
  · have gkb : ∀ {X : Nm} {z0 : Blk}, s.at X z0 → ∀ M, (z0.kill (atR D)).has M → γ (mvaN N D n0 M) = γ M := fun hX M hM => by rw [gm (h.wf.blk _ _ M hX (hasB_kill hM).1) (atR_ne (hasB_kill hM).2)]
    rcases cs hX with ⟨rfl, rfl⟩ | ⟨k, l, r, z0, rfl, h1, h2, rfl⟩ | ⟨h1, h2, h3, z0, h4, rfl⟩
    · rcases h.blks _ _ hNat with ⟨h0, A, e1⟩ | ⟨bk, o, cap, us, e1, hp, hcp, k1, k2, k3⟩
      · exact .inl ⟨h0, A, by show γ (mvaN N D n0 (rt N)) = _; rw [g0]; exact e1⟩
      · rw [hst] at k2
        refine .inr ⟨bk, o, cap, us, by show γ (mvaN N D n0 (rt N)) = _; rw [g0]; exact e1, hp, hcp, k1, k2, fun k l hk1 hl => ?_⟩
        have hk1 : k < c.len := hk1
        have hl : l < 1 := hl
        obtain ⟨u, h6, h7, h8⟩ := k3 k l hk1 (by rw [hst]; exact hl)
        refine ⟨u, by rw [hst] at h6; exact h6, h7, ?_⟩
        show CellR _ _ _ _ _ _ (cell' k l) u
        rcases Nat.lt_or_ge k n0 with hkn | hkn
        · rw [c1 hkn]
          refine h8.kill.keep hk (fun M hM => ?_) (fun hs => ?_)
          · rw [gm (h.wf.blk _ _ M hNat ⟨k, l, hk1, by rw [hst]; exact hl, (has_kill hM).1⟩) (atR_ne (has_kill hM).2)]
          · show γ (mvaN N D n0 ⟨N, [(k, l)]⟩) = _
            rw [g2 hkn]; rfl
        · rw [c2 hkn]
          obtain rfl : l = 0 := by omega
          have h9 := hc (k - n0) (by omega)
          rw [show n0 + (k - n0) = k by omega] at h9
          rw [h9] at h8
          have h10 : u = γ ⟨D, [(k - n0, 0)]⟩ := by
            have := (h8.rep rfl).2
            simpa using this
          obtain ⟨y, hy⟩ := Option.isSome_iff_exists.1 (hsub (k - n0) (by omega))
          unfold CellR
          rw [sub_kill, hy]
          show u = γ (mvaN N D n0 ⟨N, [(k, 0)]⟩)
          rw [g3 hkn]; exact h10
    · exact (h.blks _ _ h2).kill.keep hk (by show γ (mvaN N D n0 ⟨N, (k, l) :: r⟩) = _; rw [g3 h1]) (gkb h2) (fun _ _ i' j' _ _ _ _ => by show γ (mvaN N D n0 ⟨N, (k, l) :: (r ++ [(i', j')])⟩) = _; rw [g3 h1]; rfl) (fun _ _ => rfl)
    · refine (h.blks _ _ h4).kill.keep hk (by show γ (mvaN N D n0 X) = _; rw [gm ⟨_, h4⟩ h1]) (gkb h4) (fun _ _ i' j' he _ _ hs => ?_) (fun _ _ => rfl)
      show γ (mvaN N D n0 (X.kid i' j')) = _
      by_cases e1 : X.r = N
      · obtain ⟨r, p⟩ := X
        have e1 : r = N := e1
        subst e1
        cases p with
        | nil => exact absurd rfl h2
        | cons q p =>
          obtain ⟨k, l⟩ := q
          have := h3 k l p rfl
          show γ (mvaN r D n0 ⟨r, (k, l) :: (p ++ [(i', j')])⟩) = _
          rw [g2 this]; rfl
      · rw [g1 (by rw [kid_r]; exact e1)]
  · have es2 : (s.mvA N D n0).slot t = (s.kill (atR D)).slot t := by rw [es]; rfl
    rw [es2, slot_kill] at hM
    exact lv (h.wf.slot t M (has_kill hM).1) (atR_ne (has_kill hM).2)
  · rcases cs hM with ⟨rfl, rfl⟩ | ⟨k, l, r, z0, rfl, h1, h2, rfl⟩ | ⟨h1, h2, h3, z0, h4, rfl⟩
    · obtain ⟨k, l, hk1, hl, h5⟩ := hX
      have hk1 : k < c.len := hk1
      have hl : l < 1 := hl
      have h5 : (cell' k l).has X := h5
      rcases Nat.lt_or_ge k n0 with hkn | hkn
      · rw [c1 hkn] at h5
        exact lv (h.wf.blk _ _ X hNat ⟨k, l, hk1, by rw [hst]; exact hl, (has_kill h5).1⟩) (atR_ne (has_kill h5).2)
      · rw [c2 hkn] at h5
        exact lv (h.wf.blk _ _ X hDat ⟨k - n0, l, by show _ < cD.len; omega, by rw [hstD]; exact hl, (has_kill h5).1⟩) (atR_ne (has_kill h5).2)
    · exact lv (h.wf.blk _ _ X h2 (hasB_kill hX).1) (atR_ne (hasB_kill hX).2)
    · exact lv (h.wf.blk _ _ X h4 (hasB_kill hX).1) (atR_ne (hasB_kill hX).2)
  · obtain ⟨z, hz⟩ := hl
    obtain ⟨z0, h1⟩ := back hz
    have hr : mvaN N D n0 (rt L') = rt L' := by
      by_cases e : L' = N
      · rw [e]; exact g0
      · exact g1 e
    show γ (mvaN N D n0 (rt L')) = _
    rw [hr] at h1 ⊢
    exact h.hd L' hL' ⟨z0, h1⟩
theorem le_mvA {N D n0 : Nat} {e eD : TypeId} {c cD : Ct} (hN : s.rblk N = some (.row e c)) (hD : s.rblk D = some (.row eD cD)) (hND : N ≠ D) (hst : c.st = 1) (hstD : cD.st = 1) (hlen : c.len = n0 + cD.len)
    (hc : ∀ j, j < cD.len → c.cell (n0 + j) 0 = .os ⟨D, [(j, 0)]⟩) (hsub : ∀ j, j < cD.len → (cD.cell j 0).sub.isSome = true) : s.le (s.mvA N D n0) :=
  fun _ _ _ ⟨_, hs⟩ => hs.mvA hN hD hND hst hstD hlen hc hsub
end
theorem loopX {P : Program} {τ : List (Nat × TyI)} (hτ : TyOk P τ) {c : Code} {K : Exit → St → Prop} {s : St} {ι : Type} (kl : List Nat) (l : ι → List (Nat × AV)) (b : ι → List (Nat × Option Blk)) (p : ι → Prop) (μ : ι → Nat) (i0 : ι) (h0 : p i0) (hs : (s.hd (dsts c) kl (l i0) (b i0)).force fun t => s.Le t)
    (round : ∀ i, p i → Nx ((s.hd (dsts c) kl (l i) (b i)).force fun t => vc P τ c (seqK (fun s' => ∃ i', p i' ∧ μ i' < μ i ∧ ∃ u : St, s'.le u ∧ u.force fun u => (s.hd (dsts c) kl (l i') (b i')).force fun t' => u.Le t') K) t)) : VC P (.loop c) K s := by
  simp only [forceS_eq] at hs round
  refine VC_loop hτ (fun i => s.hd (dsts c) kl (l i) (b i)) p μ (fun s' i' => ∃ u : St, s'.le u ∧ u.Le (s.hd (dsts c) kl (l i') (b i'))) ?_ i0 h0 hs.le round
  rintro s' i' ⟨u, h1, h2⟩ E a w hd
  exact h2.le E a w (h1 E a w hd)
end Go.Proofs.YtbepgedckfhifaaGreat
