/-
  A call: what the callee leaves is taken over.
-/
import Derived.Test.YtbncmiglhjfcdaaCn
namespace Go.Proofs.Ytbncmiglhjfcdaa
open Go.RowKit
set_option linter.unusedVariables false

section
variable {P : Program} {E : Ent0} {w w' : World} {s : St} {act : Act} {γ : Nm → Value}

/-- What a call asks for, but for the contract itself. -/
structure CallOk (s : St) (ns : List Nm) (d : Nat) (nw : Bool) (args a0 : AV) (σ0 σ : List (Nat × Blk)) : Prop where
  nd : (ns.map Nm.r).Nodup
  len : ns.length ≤ low
  lend : lends s ns nw 0 ns σ0
  args : ∃ s0 : St, (∀ N x, s.lv N → s0.blk N = some x → s.blk N = some x) ∧ arg s0 ns nw 3 false args a0
  names : ∀ L y, lkx σ L = some y → L < ns.length ∨ (low ≤ L ∧ s.rblk (L + d * 16) = none)
  nest : ∀ k N y, ns[k]? = some N → lkx σ k = some y → N.p ≠ [] → y.nest = true
  drop : ∀ k N, ns[k]? = some N → lkx σ k = none → N.p = []

theorem lend_at {ns : List Nm} {i : Nat} {N : Nm} (h : ns[i]? = some N) : lend ns i = N := by
  unfold lend; rw [List.getD_eq_getElem?_getD, h]; rfl
theorem nodup_idx {ns : List Nm} (h : (ns.map Nm.r).Nodup) {i j : Nat} {N M : Nm} (h1 : ns[i]? = some N) (h2 : ns[j]? = some M) (e : N.r = M.r) : i = j := by
  have a1 : i < (ns.map Nm.r).length := by simpa using (List.getElem?_eq_some_iff.1 h1).1
  have a2 : j < (ns.map Nm.r).length := by simpa using (List.getElem?_eq_some_iff.1 h2).1
  refine (List.getElem_inj (h₀ := a1) (h₁ := a2) h).1 ?_
  have b1 : (ns.map Nm.r)[i]? = some N.r := by simp [h1]
  have b2 : (ns.map Nm.r)[j]? = some M.r := by simp [h2]
  rw [List.getElem?_eq_getElem a1] at b1
  rw [List.getElem?_eq_getElem a2] at b2
  exact (Option.some.inj b1).trans (e.trans (Option.some.inj b2).symm)

set_option maxHeartbeats 2000000 in
theorem Fn.call {f : Nat} {nw : Bool} {args a0 r : AV} {σ0 σ : List (Nat × Blk)} {ns : List Nm} {d : Nat} (hF : Fn P f nw a0 σ0 r σ) (h : Sim E s act w γ) (hc : CallOk s ns d nw args a0 σ0 σ) {vs : List Value} (hr : Reps w (E.ow (s.own γ)) γ args .o vs) (hl : s.live args) :
    Calls P f vs.toArray w fun e w' => ∃ v γ', e = .returned v ∧ Sim E (s.after ns d σ) act w' γ' ∧ Reps w' (E.ow ((s.after ns d σ).own γ')) γ' (r.rn (ren ns d)) .o [v] ∧ (s.after ns d σ).live (r.rn (ren ns d)) := by
  obtain ⟨l1, l2⟩ := lends_at hc.lend
  obtain ⟨s0, hag, hargs0⟩ := hc.args
  -- the callee's begin
  let γ0 : Nm → Value := fun M => γ (M.rn (lend ns))
  have lentAt : ∀ M y, AtL (lkx σ0) M y → ∃ N x, ns[M.r]? = some N ∧ M.rn (lend ns) = ⟨N.r, N.p ++ M.p⟩ ∧ s.at (M.rn (lend ns)) x ∧ argB s ns nw x y := by
    rintro M y ⟨y0, h1, h2⟩
    obtain ⟨i, N, x, e, h3, h4, h5⟩ := l1 M.r y0 h1
    rw [Nat.zero_add] at e
    subst e
    obtain ⟨x', h6, h7⟩ := argB_at h5 h2
    have e2 : M.rn (lend ns) = ⟨N.r, N.p ++ M.p⟩ := by unfold Nm.rn; rw [lend_at h3]
    exact ⟨N, x', h3, e2, by rw [e2]; exact (at_below h4).2 h6, h7⟩
  have subown : ∀ b, ownL σ0 γ0 b → s.own γ b := fun b ⟨M, y, hM, hb⟩ => by
    obtain ⟨N, x, _, _, h3, _⟩ := lentAt M y hM
    exact ⟨_, x, h3, hb⟩
  have ownlt : ∀ b, s.own γ b → b < w.heap.size := fun b ⟨N, x, hN, hb⟩ => (h.mine N x b hN hb).1
  let Z : Nat → Prop := fun b => nw = false ∧ ((s.own γ b ∧ ¬ ownL σ0 γ0 b) ∨ E.z b)
  have zlt : ∀ b, Z b → b < w.heap.size := fun b ⟨_, hb⟩ => hb.elim (fun hb => ownlt b hb.1) (fun hb => Nat.lt_of_lt_of_le (E.zlt b hb) h.fr.size)
  let E' : Ent0 := ⟨w, ownL σ0 γ0, γ0, Z, zlt⟩
  have hO : ∀ b f, b < w.heap.size → ¬ E.ow (s.own γ) f b → ¬ E'.ow (ownL σ0 γ0) false b := by
    rintro b f hb hn (h1 | ⟨_, h1 | h1⟩ | ⟨h1, _⟩)
    · exact hn (.inl (subown b h1))
    · exact hn (.inl h1.1)
    · exact hn (.inr (.inl h1))
    · cases h1
  have hV : nw = true → ∀ N x bk, s.at N x → avoid ns N → blkOf (γ N) = some bk → ¬ E'.ow (ownL σ0 γ0) false bk := by
    rintro hv N x bk hN hav hb (⟨M, y, hM, hb'⟩ | ⟨h1, _⟩ | ⟨h1, _⟩)
    · obtain ⟨N', x', h3, h4, h5, _⟩ := lentAt M y hM
      have e := h.inj _ _ _ _ bk hN h5 hb hb'
      rw [h4] at e
      have := (List.all_eq_true.1 hav) N' (List.mem_of_getElem? h3)
      rw [e] at this
      simp at this
    · rw [hv] at h1; cases h1
    · cases h1
  have hpre : Pre E' σ0 := by
    refine ⟨rfl, fun M y hM => ?_, fun M y bk hM hb => ?_, fun M M' y y' bk hM hM' hb hb' => ?_, fun M y N hM hN => ?_⟩
    · obtain ⟨N, x, _, _, h3, h4⟩ := lentAt M y hM
      exact argB_sound h (fun _ => rfl) hO hV h3 h4
    · exact ownlt bk (subown bk ⟨M, y, hM, hb⟩)
    · obtain ⟨N, x, g1, g2, g3, _⟩ := lentAt M y hM
      obtain ⟨N', x', k1, k2, k3, _⟩ := lentAt M' y' hM'
      have e := h.inj _ _ _ _ bk g3 k3 hb hb'
      rw [g2, k2] at e
      have e1 := congrArg Nm.r e
      have e2 := congrArg Nm.p e
      simp only at e1 e2
      have e3 := nodup_idx hc.nd g1 k1 e1
      obtain ⟨m, p⟩ := M
      obtain ⟨m', p'⟩ := M'
      simp only at e3 g1 k1 e2
      subst e3
      rw [g1] at k1; cases k1
      rw [List.append_cancel_left_eq] at e2
      rw [e2]
    · obtain ⟨N', x, g1, g2, g3, g4⟩ := lentAt M y hM
      obtain ⟨h1, h2⟩ := argB_has g4 N hN
      obtain ⟨z, hz⟩ := h.wf.blk _ _ _ g3 h2
      have hN1 : ∃ N1, ns[N.r]? = some N1 := ⟨ns[N.r], List.getElem?_eq_getElem h1⟩
      obtain ⟨N1, hN1⟩ := hN1
      have := l2 N.r N1 hN1
      rw [Nat.zero_add] at this
      obtain ⟨y1, hy1⟩ := Option.isSome_iff_exists.1 this
      obtain ⟨i, N2, x2, e, k3, k4, k5⟩ := l1 N.r y1 hy1
      rw [Nat.zero_add] at e
      subst e
      have e2 : N.rn (lend ns) = ⟨N2.r, N2.p ++ N.p⟩ := by unfold Nm.rn; rw [lend_at k3]
      rw [e2] at hz
      have hz' := (at_below k4).1 hz
      obtain ⟨y', h5, _⟩ := argB_at2 k5 hz'
      exact ⟨y', y1, hy1, h5⟩
  have hargs : Reps w (E'.ow (ownL σ0 γ0)) γ0 a0 .o vs := (arg_sound h hag (fun _ => rfl) hO hV 3 _ _ _ hargs0 hl).1 _ _ hr
  have lentLv : ∀ k N, ns[k]? = some N → s.lv N := fun k N hk => by
    have := l2 k N hk
    rw [Nat.zero_add] at this
    obtain ⟨y1, hy1⟩ := Option.isSome_iff_exists.1 this
    obtain ⟨i, N2, x2, e, k3, k4, _⟩ := l1 k y1 hy1
    rw [Nat.zero_add] at e
    subst e
    rw [hk] at k3; cases k3
    exact ⟨_, k4⟩
  have hnames : ∀ N, a0.has N → ∃ x, AtL (lkx σ0) N x := fun N hN => by
    obtain ⟨h1, h2⟩ := arg_has hargs0 N hN
    obtain ⟨z, hz⟩ := hl _ h2
    have hN1 : ∃ N1, ns[N.r]? = some N1 := ⟨ns[N.r], List.getElem?_eq_getElem h1⟩
    obtain ⟨N1, hN1⟩ := hN1
    have := l2 N.r N1 hN1
    rw [Nat.zero_add] at this
    obtain ⟨y1, hy1⟩ := Option.isSome_iff_exists.1 this
    obtain ⟨i, N2, x2, e, k3, k4, k5⟩ := l1 N.r y1 hy1
    rw [Nat.zero_add] at e
    subst e
    have e2 : N.rn (lend ns) = ⟨N2.r, N2.p ++ N.p⟩ := by unfold Nm.rn; rw [lend_at k3]
    rw [e2] at hz
    obtain ⟨y', h5, _⟩ := argB_at2 k5 ((at_below k4).1 hz)
    exact ⟨y', y1, hy1, h5⟩
  refine Calls.mono (hF.2 E' vs hpre hargs hnames) fun e w' => ?_
  rintro ⟨v, γ', he, hfr, hP, hrep, hnew, hrl⟩
  -- behind the call
  have h1 : Sim E (s.drops (lkx σ) 0 ns) act w γ := h.drops ns 0
  have t1 : Told (s.drops (lkx σ) 0 ns) (lkx σ) 0 ns := told_drops ns 0
  have lvEq : ∀ {D}, (s.drops (lkx σ) 0 ns).lv D ↔ s.lv D := drops_lv ns 0
  have ownEq : (s.drops (lkx σ) 0 ns).own γ = s.own γ := drops_own ns 0
  generalize hs1 : s.drops (lkx σ) 0 ns = s1 at h1 t1 lvEq ownEq
  have hs3 : s.after ns d σ = (s1.back (ren ns d) (lkx σ) 0 ns).addN (newB (ren ns d) σ) := by unfold St.after; rw [hs1]
  rw [hs3]
  generalize hs3' : (s1.back (ren ns d) (lkx σ) 0 ns).addN (newB (ren ns d) σ) = s3
  have hfit : Fit s1 (lkx σ) 0 ns := by
    refine ⟨hc.nd, fun N hN => ?_, fun k N y h2 h3 => hc.nest k N y h2 (by rw [Nat.zero_add] at h3; exact h3), fun k N h2 h3 => hc.drop k N h2 (by rw [Nat.zero_add] at h3; exact h3)⟩
    obtain ⟨k, hk⟩ := List.getElem?_of_mem hN
    exact lvEq.2 (lentLv k N hk)
  have newRoot : ∀ L y, low ≤ L → lkx σ L = some y → ∀ D, s.lv D → D.r ≠ L + d * 16 := fun L y h2 h3 D hD => by
    rcases hc.names L y h3 with h4 | ⟨_, h4⟩
    · have := hc.len; omega
    · exact not_lv h4 hD
  have renK : ∀ k N, ns[k]? = some N → ren ns d k = N := fun k N hk => by
    have h2 : k < ns.length := (List.getElem?_eq_some_iff.1 hk).1
    rw [ren_low (Nat.lt_of_lt_of_le h2 hc.len), lend_at hk]
  have C1 : ∀ (D : Nm) z, s3.at D z → (∃ M y, AtL (lkx σ) M y ∧ D = M.rn (ren ns d) ∧ z = y.rn (ren ns d)) ∨
      ((∀ (k : Nat) (N : Nm), ns[k]? = some N → ¬ ∃ q, D = ⟨N.r, N.p ++ q⟩) ∧ (∀ L y, low ≤ L → lkx σ L = some y → D.r ≠ L + d * 16) ∧ ∃ z1, s1.at D z1 ∧ SameSh z1 z) := by
    intro D z hD
    rw [← hs3'] at hD
    rcases after_cases hD with ⟨L, y, h2, h3, h4, h5⟩ | ⟨h2, h3⟩
    · obtain ⟨y', h6, rfl⟩ := at_rn.1 h5
      refine .inl ⟨⟨L, D.p⟩, y', ⟨y, h3, h6⟩, ?_, rfl⟩
      rw [rn_at, ren_high h2]
      obtain ⟨r, p⟩ := D
      simp only at h4
      rw [h4]; rfl
    · rcases back_at ns 0 hfit h3 with ⟨k, N, y, q, h4, h5, rfl, h6⟩ | ⟨h4, h5⟩
      · obtain ⟨y', h7, rfl⟩ := at_rn.1 h6
        rw [Nat.zero_add] at h5
        refine .inl ⟨⟨k, q⟩, y', ⟨y, h5, h7⟩, ?_, rfl⟩
        rw [rn_at, renK k N h4]
      · exact .inr ⟨h4, h2, h5⟩
  have afterOld : ∀ D, (∀ L y, low ≤ L → lkx σ L = some y → D.r ≠ L + d * 16) → ∀ z, (s1.back (ren ns d) (lkx σ) 0 ns).at D z → s3.at D z := by
    rintro D hD z ⟨x, h2, h3⟩
    rw [← hs3']
    refine ⟨x, ?_, h3⟩
    rw [addN_rblk newB_some]
    cases hb : lkb (newB (ren ns d) σ) D.r with
    | none => exact h2
    | some x' =>
      obtain ⟨L, y, h4, h5, h6, _⟩ := lkb_newB hb
      exact absurd h6 (hD L y h4 h5)
  have C2 : ∀ M y, AtL (lkx σ) M y → s3.at (M.rn (ren ns d)) (y.rn (ren ns d)) := by
    rintro ⟨L, p⟩ y ⟨y0, h2, h3⟩
    simp only at h2 h3
    rcases hc.names L y0 h2 with h4 | ⟨h4, h5⟩
    · have hN : ns[L]? = some ns[L] := List.getElem?_eq_getElem h4
      have h5 := back_kept (ρ := ren ns d) (q := p) (z := y.rn (ren ns d)) (y := y0) ns 0 L _ hfit hN (by rw [Nat.zero_add]; exact h2) (at_rn.2 ⟨y, h3, rfl⟩)
      have e : (⟨L, p⟩ : Nm).rn (ren ns d) = ⟨ns[L].r, ns[L].p ++ p⟩ := by rw [rn_at, renK L _ hN]
      rw [e]
      exact afterOld ⟨ns[L].r, ns[L].p ++ p⟩ (fun L' y' h6 h7 => newRoot L' y' h6 h7 ns[L] (lentLv L _ hN)) _ h5
    · rw [rn_at, ren_high h4, ← hs3']
      exact (after_new h4 h2).2 (at_rn.2 ⟨y, h3, rfl⟩)
  have C3 : ∀ (D : Nm) z, s1.at D z → (∀ (k : Nat) (N : Nm), ns[k]? = some N → ¬ ∃ q, D = ⟨N.r, N.p ++ q⟩) → (∀ (k : Nat) (N : Nm), ns[k]? = some N → lkx σ k = none → D.r ≠ N.r) → s3.lv D := by
    intro D z hD h2 h3
    obtain ⟨z', hz'⟩ := back_old (ρ := ren ns d) ns 0 hfit hD h2 (fun k N h4 h5 => h3 k N h4 (by rw [Nat.zero_add] at h5; exact h5))
    exact ⟨z', afterOld D (fun L y h4 h5 => newRoot L y h4 h5 D (lvEq.1 ⟨z, hD⟩)) z' hz'⟩
  have img : ∀ M y, AtL (lkx σ) M y → (∃ N, ns[M.r]? = some N ∧ M.rn (ren ns d) = ⟨N.r, N.p ++ M.p⟩) ∨ (low ≤ M.r ∧ (∃ y0, lkx σ M.r = some y0) ∧ M.rn (ren ns d) = ⟨M.r + d * 16, M.p⟩) := by
    rintro ⟨L, p⟩ y ⟨y0, h2, h3⟩
    simp only at h2 h3 ⊢
    rcases hc.names L y0 h2 with h4 | ⟨h4, h5⟩
    · have hN : ns[L]? = some ns[L] := List.getElem?_eq_getElem h4
      exact .inl ⟨_, hN, by rw [rn_at, renK L _ hN]⟩
    · exact .inr ⟨h4, ⟨y0, h2⟩, by rw [rn_at, ren_high h4]; rfl⟩
  have notimg : ∀ (D : Nm), (∀ (k : Nat) (N : Nm), ns[k]? = some N → ¬ ∃ q, D = ⟨N.r, N.p ++ q⟩) → (∀ L y, low ≤ L → lkx σ L = some y → D.r ≠ L + d * 16) → ¬ ∃ M y, AtL (lkx σ) M y ∧ D = M.rn (ren ns d) := by
    rintro D h2 h3 ⟨M, y, hM, rfl⟩
    rcases img M y hM with ⟨N, h4, h5⟩ | ⟨h4, ⟨y0, h6⟩, h5⟩
    · exact h2 M.r N h4 ⟨M.p, h5⟩
    · exact h3 M.r y0 h4 h6 (by rw [h5])
  have I : ∀ M M' y y', AtL (lkx σ) M y → AtL (lkx σ) M' y' → M.rn (ren ns d) = M'.rn (ren ns d) → M = M' := by
    intro M M' y y' hM hM' e
    rcases img M y hM with ⟨N, h4, h5⟩ | ⟨h4, ⟨y0, h6⟩, h5⟩ <;> rcases img M' y' hM' with ⟨N', k4, k5⟩ | ⟨k4, ⟨y0', k6⟩, k5⟩
    · rw [h5, k5] at e
      have e1 := congrArg Nm.r e
      have e2 := congrArg Nm.p e
      simp only at e1 e2
      have e3 := nodup_idx hc.nd h4 k4 e1
      obtain ⟨m, p⟩ := M
      obtain ⟨m', p'⟩ := M'
      simp only at e3 h4 k4 e2
      subst e3
      rw [h4] at k4; cases k4
      rw [List.append_cancel_left_eq] at e2
      rw [e2]
    · rw [h5, k5] at e
      exact absurd (congrArg Nm.r e) (newRoot _ _ k4 k6 N (lentLv _ N h4))
    · rw [h5, k5] at e
      exact absurd (congrArg Nm.r e).symm (newRoot _ _ h4 h6 N' (lentLv _ N' k4))
    · rw [h5, k5] at e
      have e1 := congrArg Nm.r e
      have e2 := congrArg Nm.p e
      simp only at e1 e2
      obtain ⟨m, p⟩ := M
      obtain ⟨m', p'⟩ := M'
      simp only at e1 e2
      have e3 : m = m' := by omega
      rw [e3, e2]
  obtain ⟨γ3, g1, g2⟩ : ∃ γ3 : Nm → Value, (∀ M y, AtL (lkx σ) M y → γ3 (M.rn (ren ns d)) = γ' M) ∧ (∀ D, (¬ ∃ M y, AtL (lkx σ) M y ∧ D = M.rn (ren ns d)) → γ3 D = γ D) := by
    classical
    refine ⟨fun D => if hD : ∃ M y, AtL (lkx σ) M y ∧ D = M.rn (ren ns d) then γ' (Classical.choose hD) else γ D, fun M y hM => ?_, fun D hD => by simp only [dif_neg hD]⟩
    have hD : ∃ M' y', AtL (lkx σ) M' y' ∧ M.rn (ren ns d) = M'.rn (ren ns d) := ⟨M, y, hM, rfl⟩
    simp only [dif_pos hD]
    obtain ⟨y', hy', e⟩ := Classical.choose_spec hD
    rw [I _ _ y' y hy' hM e.symm]
  have hdK : ∀ k N, ns[k]? = some N → ∀ y, lkx σ k = some y → γ3 N = γ N := fun k N hk y hy => by
    have hlt : k < ns.length := (List.getElem?_eq_some_iff.1 hk).1
    have e : (rt k).rn (ren ns d) = N := by rw [rn_rt, renK k N hk]
    have h2 := g1 (rt k) y ⟨y, hy, rfl⟩
    rw [e] at h2
    rw [h2, hP.hd k y (Nat.lt_of_lt_of_le hlt hc.len) hy]
    show γ ((rt k).rn (lend ns)) = γ N
    rw [rn_rt, lend_at hk]
  have told : ∀ (D : Nm), s1.lv D → (∀ k N, ns[k]? = some N → D.r = N.r → (lkx σ k).isSome = true ∧ D.p = []) → γ3 D = γ D ∧ s3.lv D := by
    intro D hD hk
    by_cases hu : ∃ (k : Nat) (N : Nm), ns[k]? = some N ∧ ∃ q, D = ⟨N.r, N.p ++ q⟩
    · obtain ⟨k, N, h2, q, rfl⟩ := hu
      obtain ⟨h3, h4⟩ := hk k N h2 rfl
      obtain ⟨y, hy⟩ := Option.isSome_iff_exists.1 h3
      have h5 : N.p = [] ∧ q = [] := by simpa using h4
      have e : (⟨N.r, N.p ++ q⟩ : Nm) = N := by obtain ⟨r, p⟩ := N; simp only at h5; rw [h5.1, h5.2]; rfl
      rw [e]
      refine ⟨hdK k N h2 y hy, ?_⟩
      have h6 := C2 (rt k) y ⟨y, hy, rfl⟩
      rw [rn_rt, renK k N h2] at h6
      exact ⟨_, h6⟩
    · have h2 : ∀ (k : Nat) (N : Nm), ns[k]? = some N → ¬ ∃ q, D = ⟨N.r, N.p ++ q⟩ := fun k N h3 h4 => hu ⟨k, N, h3, h4⟩
      obtain ⟨z, hz⟩ := hD
      refine ⟨g2 D (notimg D h2 (fun L y h4 h5 => newRoot L y h4 h5 D (lvEq.1 ⟨z, hz⟩))), C3 D z hz h2 (fun k N h4 h5 e => ?_)⟩
      have := (hk k N h4 e).1
      rw [h5] at this; cases this
  have toldS : ∀ t D, (s1.slot t).has D → γ3 D = γ D ∧ s3.lv D := fun t D hD => told D (h1.wf.slot t D hD) (fun k N h2 h3 => by have := t1.slot t D hD k N h2 h3; rwa [Nat.zero_add] at this)
  have toldB : ∀ M y D, s1.at M y → y.has D → γ3 D = γ D ∧ s3.lv D := fun M y D hM hD => told D (h1.wf.blk M y D hM hD) (fun k N h2 h3 => by have := t1.blk M y D hM hD k N h2 h3; rwa [Nat.zero_add] at this)
  have kidh : ∀ (D : Nm), (∀ (k : Nat) (N : Nm), ns[k]? = some N → ¬ ∃ q, D = ⟨N.r, N.p ++ q⟩) → ∀ i j, s1.lv (D.kid i j) → γ3 (D.kid i j) = γ (D.kid i j) := by
    intro D h2 i j hlv
    by_cases hi : ∃ M y, AtL (lkx σ) M y ∧ D.kid i j = M.rn (ren ns d)
    · obtain ⟨M, y, hM, e⟩ := hi
      rcases img M y hM with ⟨N, h4, h5⟩ | ⟨h4, ⟨y0, h6⟩, h5⟩
      · rw [h5] at e
        have e1 : D.r = N.r := by have := congrArg Nm.r e; exact this
        have e2 : D.p ++ [(i, j)] = N.p ++ M.p := by have := congrArg Nm.p e; exact this
        rcases List.eq_nil_or_concat M.p with h7 | ⟨l, x, h7⟩
        · rw [h7, List.append_nil] at e2
          have e3 : D.kid i j = N := by obtain ⟨r, p⟩ := N; unfold Nm.kid; simp only at e1 e2; rw [e1, e2]
          rw [e3]
          have hM' : M = rt M.r := by obtain ⟨m, p⟩ := M; simp only at h7; rw [h7]
          obtain ⟨y0, h8, _⟩ := hM
          exact hdK M.r N h4 y0 h8
        · exfalso
          rw [h7, List.concat_eq_append, ← List.append_assoc] at e2
          have := List.append_inj_left' e2 rfl
          exact h2 M.r N h4 ⟨l, by obtain ⟨r, p⟩ := D; simp only at e1 this ⊢; rw [e1, this]⟩
      · rw [h5] at e
        exact absurd (congrArg Nm.r e) (newRoot _ _ h4 h6 _ (lvEq.1 hlv))
    · exact g2 _ hi
  have oldown : ∀ (D : Nm) z bk, s1.at D z → (∀ (k : Nat) (N : Nm), ns[k]? = some N → ¬ ∃ q, D = ⟨N.r, N.p ++ q⟩) → blkOf (γ D) = some bk → ¬ ownL σ0 γ0 bk := by
    rintro D z bk hD h2 hb ⟨M, y, hM, hb'⟩
    obtain ⟨N, x, k1, k2, k3, _⟩ := lentAt M y hM
    obtain ⟨z', hz'⟩ := lvEq.1 ⟨z, hD⟩
    have := h.inj _ _ _ _ bk hz' k3 hb hb'
    rw [k2] at this
    exact h2 M.r N k1 ⟨_, this⟩
  have own3 : ∀ b, s3.own γ3 b → ownL σ γ' b ∨ (s.own γ b ∧ ¬ ownL σ0 γ0 b) := by
    rintro b ⟨D, z, hD, hb⟩
    rcases C1 D z hD with ⟨M, y, hM, rfl, rfl⟩ | ⟨h2, h3, z1, h4, _⟩
    · rw [g1 M y hM] at hb; exact .inl ⟨M, y, hM, hb⟩
    · rw [g2 D (notimg D h2 h3)] at hb
      exact .inr ⟨by rw [← ownEq]; exact ⟨D, z1, h4, hb⟩, oldown D z1 b h4 h2 hb⟩
  have K : ∀ (f : Bool) b, (nw = false ∨ f = true) → ¬ E'.ow (ownL σ γ') f b → ¬ E.ow (s3.own γ3) f b := by
    rintro f b hf hn (h2 | h2 | ⟨h2, h3⟩)
    · rcases own3 b h2 with h3 | h3
      · exact hn (.inl h3)
      · rcases hf with hf | hf
        · exact hn (.inr (.inl ⟨hf, .inl h3⟩))
        · exact hn (.inr (.inr ⟨hf, ownlt b h3.1⟩))
    · rcases hf with hf | hf
      · exact hn (.inr (.inl ⟨hf, .inr h2⟩))
      · exact hn (.inr (.inr ⟨hf, Nat.lt_of_lt_of_le (E.zlt b h2) h.fr.size⟩))
    · exact hn (.inr (.inr ⟨h2, Nat.lt_of_lt_of_le h3 h.fr.size⟩))
  have KK : nw = false → Keeps w' w' (E'.ow (ownL σ γ')) (E.ow (s3.own γ3)) := fun hf => ⟨Nat.le_refl _, fun _ _ _ _ => rfl, fun f b _ hn => K f b (.inl hf) hn⟩
  have KR : Keeps w' w' (E.ow (s3.own γ3)) (E.ow (s3.own γ3)) := ⟨Nat.le_refl _, fun _ _ _ _ => rfl, fun f b _ hn => hn⟩
  have conv : ∀ (M : Nm) (y : Blk), AtL (lkx σ) M y → BlkOk w' (E.ow (s3.own γ3)) γ3 (M.rn (ren ns d)) (y.rn (ren ns d)) := by
    intro M y hM
    refine BlkOk.rn.2 ?_
    have hb := hP.blks M y hM
    have kid' : ∀ e c i j, y = .row e c → i < c.len → j < c.st → (c.cell i j).sub.isSome = true → γ3 ((M.kid i j).rn (ren ns d)) = γ' (M.kid i j) := fun e c i j hy hi hj hs => by
      obtain ⟨z, hz⟩ := Option.isSome_iff_exists.1 hs
      subst hy
      exact g1 _ z (at_kid hM hi hj hz)
    have nam' : ∀ N, y.has N → γ3 (N.rn (ren ns d)) = γ' N := fun N hN => by
      obtain ⟨z, hz⟩ := hP.wf M y N hM hN
      exact g1 N z hz
    cases hw : nw with
    | false => exact hb.1.keep (KK hw) (g1 M y hM) nam' kid' (fun _ _ => rfl)
    | true =>
      have h2 : BlkOk w' (E.ow (s3.own γ3)) γ' M y := hb.1.keepT (hb.2 hw) (Nat.le_refl _) (fun k _ hn => ⟨rfl, K true k (.inr rfl) hn⟩) (fun _ _ => rfl)
      exact h2.keep KR (g1 M y hM) nam' kid' (fun _ _ => rfl)
  have hS : Sim E s3 act w' γ3 := by
    refine h1.build ⟨hfr.os, hfr.tape, hfr.output, hfr.size, fun k hk hn => hfr.block k hk (fun hb => hn (by rw [ownEq]; exact subown k hb))⟩ ?_ h1.defers ?_ ?_ ?_ ?_ ⟨?_, ?_⟩ ?_
    · rw [h1.size, ← hs3']; exact (back_n ns 0).symm
    · intro D z hD bk hb
      rcases C1 D z hD with ⟨M, y, hM, rfl, rfl⟩ | ⟨h2, h3, z1, h4, _⟩
      · rw [g1 M y hM] at hb
        obtain ⟨h5, h6⟩ := hP.mine M y bk hM hb
        rcases h6 with h6 | h6
        · exact .inl ⟨h6, h5⟩
        · exact .inr (by rw [ownEq]; exact subown bk h6)
      · rw [g2 D (notimg D h2 h3)] at hb; exact .inr ⟨D, z1, h4, hb⟩
    · have mixed : ∀ (M : Nm) y (D : Nm) z1 bk, AtL (lkx σ) M y → s1.at D z1 → (∀ (k : Nat) (N : Nm), ns[k]? = some N → ¬ ∃ q, D = ⟨N.r, N.p ++ q⟩) → blkOf (γ' M) = some bk → blkOf (γ D) = some bk → False := by
        intro M y D z1 bk hM hD h2 hb hb'
        rcases (hP.mine M y bk hM hb).2 with h3 | h3
        · have h4 := (h1.mine D z1 bk hD hb').1
          have h5 : w.heap.size ≤ bk := h3
          omega
        · exact oldown D z1 bk hD h2 hb' h3
      intro D D' z z' bk hD hD' hb hb'
      rcases C1 D z hD with ⟨M, y, hM, rfl, rfl⟩ | ⟨h2, h3, z1, h4, _⟩ <;> rcases C1 D' z' hD' with ⟨M', y', hM', rfl, rfl⟩ | ⟨k2, k3, z1', k4, _⟩
      · rw [g1 M y hM] at hb; rw [g1 M' y' hM'] at hb'
        rw [hP.inj M M' y y' bk hM hM' hb hb']
      · rw [g1 M y hM] at hb; rw [g2 D' (notimg D' k2 k3)] at hb'
        exact (mixed M y D' z1' bk hM k4 k2 hb hb').elim
      · rw [g2 D (notimg D h2 h3)] at hb; rw [g1 M' y' hM'] at hb'
        exact (mixed M' y' D z1 bk hM' h4 h2 hb' hb).elim
      · rw [g2 D (notimg D h2 h3)] at hb; rw [g2 D' (notimg D' k2 k3)] at hb'
        exact h1.inj D D' z1 z1' bk h4 k4 hb hb'
    · intro hk t
      have e : s3.slot t = s1.slot t := by rw [← hs3']; exact back_slot t ns 0
      rw [e]
      exact ((h1.slots t).keep hk).gam (fun _ D hD => (toldS t D hD).1)
    · intro hk D z hD
      rcases C1 D z hD with ⟨M, y, hM, rfl, rfl⟩ | ⟨h2, h3, z1, h4, h5⟩
      · exact conv M y hM
      · refine BlkOk.same ?_ h5
        refine (h1.blks D z1 h4).keep hk (g2 D (notimg D h2 h3)) (fun N hN => (toldB D z1 N h4 hN).1) (fun e c i j hz hi hj hs => ?_) (fun bk hb => ?_)
        · obtain ⟨z2, hz2⟩ := Option.isSome_iff_exists.1 hs
          subst hz
          exact kidh D h2 i j ⟨z2, at_kid h4 hi hj hz2⟩
        · exact hfr.block bk (h1.mine D z1 bk h4 hb).1 (fun h6 => oldown D z1 bk h4 h2 hb h6)
    · intro t D hD
      have e : s3.slot t = s1.slot t := by rw [← hs3']; exact back_slot t ns 0
      rw [e] at hD
      exact (toldS t D hD).2
    · intro M z D hM hD
      rcases C1 M z hM with ⟨M0, y, hM0, rfl, rfl⟩ | ⟨h2, h3, z1, h4, h5⟩
      · obtain ⟨N, h6, rfl⟩ := hasB_rn.1 hD
        obtain ⟨z2, hz2⟩ := hP.wf M0 y N hM0 h6
        exact ⟨_, C2 N z2 hz2⟩
      · exact (toldB M z1 D h4 (h5.has hD)).2
    · intro L hL hlv
      obtain ⟨z, hz⟩ := hlv
      rcases C1 (rt L) z hz with ⟨M, y, hM, e1, _⟩ | ⟨h2, h3, z1, h4, _⟩
      · rcases img M y hM with ⟨N, k4, k5⟩ | ⟨k4, _, k5⟩
        · rw [k5] at e1
          have e2 : L = N.r := congrArg Nm.r e1
          have e3 : [] = N.p ++ M.p := congrArg Nm.p e1
          have e4 : N.p = [] ∧ M.p = [] := by simpa using e3.symm
          have e5 : rt L = N := by obtain ⟨r, p⟩ := N; simp only at e2 e4; rw [e2, e4.1]
          obtain ⟨y0, h8, _⟩ := hM
          rw [e5, hdK M.r N k4 y0 h8, ← e5]
          exact h.hd L hL (by rw [e5]; exact lentLv _ N k4)
        · rw [k5] at e1
          have e2 : L = M.r + d * 16 := congrArg Nm.r e1
          omega
      · rw [g2 _ (notimg _ h2 h3)]
        exact h1.hd L hL ⟨z1, h4⟩
  refine ⟨v, γ3, he, hS, ?_, fun D hD => ?_⟩
  · refine Reps.rn.2 ?_
    have nam' : ∀ N, r.has N → γ3 (N.rn (ren ns d)) = γ' N := fun N hN => by
      obtain ⟨z, hz⟩ := hrl N hN
      exact g1 N z hz
    cases hw : nw with
    | false => exact (hrep.keep (KK hw)).gam (fun _ N hN => nam' N hN)
    | true =>
      have h2 := hrep.keepT (own' := E.ow (s3.own γ3)) (Nat.le_refl _) (fun k _ hn => ⟨rfl, K true k (.inr rfl) hn⟩) (.inl (hnew hw))
      exact h2.gam (fun _ N hN => nam' N hN)
  · obtain ⟨N, h6, rfl⟩ := has_rn.1 hD
    obtain ⟨z2, hz2⟩ := hrl N h6
    exact ⟨_, C2 N z2 hz2⟩
end
end Go.Proofs.Ytbncmiglhjfcdaa
