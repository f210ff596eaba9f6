/-
  All operations that leave old memory alone: addresses, slices, arithmetic; and the law for them all.
-/
import Derived.Test.YtbncmiglhjfcdaaCh
namespace Go.Proofs.Ytbncmiglhjfcdaa
open Go.RowKit
set_option linter.unusedVariables false

section
variable {P : Program} {τ : List (Nat × TyI)} {E : Ent0} {w : World} {s : St} {act : Act} {γ : Nm → Value}

theorem add_at (bk o j : Nat) : (⟨bk, o, none⟩ : Addr).add j = ⟨bk, o + j, none⟩ := by
  unfold Addr.add
  split
  · next h => subst h; rfl
  · rfl

theorem q_field {a : AV} {v : Value} {t f o z : Nat} {i : TyI} (hi : tyChk P t i = true) (ha : i.agg = true) (hf : i.flds[f]? = some (o, z)) (hz : 0 < z) {own : Bool → Nat → Prop} (hr : Reps w own γ a .o [v]) (hne : addA a o ≠ .top) :
    ∃ u, (Instr.fieldAt t v f).run P w = .ok u w ∧ Reps w own γ (addA a o) .o [u] := by
  obtain ⟨fs, fd, inf, h1, h2, h3, h4, h5⟩ := tyChk_fld hi hf ha
  have hsz : (sizeOf fd.type).run P w = .ok z w := by simp [sizeOf, typeInfo, h4, h5]
  have key : ∀ (bk q : Nat), (Instr.fieldAt t (.pointer (some ⟨bk, q, none⟩)) f).run P w = .ok (.pointer (some ⟨bk, q + o, none⟩)) w := by
    intro bk q
    have hz0 : ¬ z = 0 := by omega
    simp [Instr.fieldAt, run_underlying h1, h2, Instr.sureAddr, fieldPlace, hsz, hz0, h3, add_at]
  cases a with
  | op L j =>
    obtain ⟨_, e, bk, q, hp⟩ := hr
    cases e
    exact ⟨_, by rw [hp]; exact key _ _, rfl, by rw [hp, Nat.add_assoc], bk, q, hp⟩
  | oe L st k j =>
    obtain ⟨_, e, bk, q, hp⟩ := hr
    cases e
    exact ⟨_, by rw [hp]; exact key _ _, rfl, by rw [hp]; simp only [Nat.add_assoc], bk, q, hp⟩
  | rp f n st cell k j =>
    obtain ⟨bk, q, e, h6⟩ := hr
    cases e
    exact ⟨_, key _ _, bk, q, by rw [Nat.add_assoc, Nat.add_assoc], h6⟩
  | _ => exact absurd rfl hne

theorem run_idx {t : Nat} {i e : TyI} (hi : tyChk P t i = true) (he : tyChk P i.elem e = true) (hne : i.elem ≠ 0) (bk o n c k : Nat) (q : IntKind) (hk : k < n) :
    (Instr.indexAt t (.slice (some ⟨bk, o, none⟩) n c) (.int q k)).run P w = .ok (.pointer (some ⟨bk, o + k * e.size, none⟩)) w := by
  have hu := tyChk_elem hi hne
  obtain ⟨inf, z, h1, h2, h3, h4, h5⟩ := tyChk_info he
  have h0 : (0 : Int) ≤ k ∧ (k : Int) < n := by omega
  simp [Instr.indexAt, asIntOf, run_underlying hu, sizeOf, typeInfo, h1, h2, h0, hk, add_at]

theorem q_idx (h : Sim E s act w γ) {t : Nat} {i e : TyI} (hi : tyChk P t i = true) (he : tyChk P i.elem e = true) (hne : i.elem ≠ 0) {x ix a : AV} {v u : Value} {nb : Option Blk}
    (hx : Reps w (E.ow (s.own γ)) γ x .o [v]) (hlx : s.live x) (hix : Reps w (E.ow (s.own γ)) γ ix .o [u]) (hy : Yields (idxA s e.size x ix) a nb) :
    nb = none ∧ ∃ r, (Instr.indexAt t v u).run P w = .ok r w ∧ Reps w (E.ow (s.own γ)) γ a .o [r] ∧ s.live a := by
  cases ix with
  | int q m =>
    cases hix
    cases x with
    | ri f q' xs =>
      simp only [idxA] at hy
      cases hz : Nat.beq e.size 1 with
      | false => rw [hz] at hy; cases hy
      | true =>
        rw [hz] at hy
        have hz' := Nat.eq_of_beq_eq_true hz
        cases hy
        rename_i k hm hk
        subst hm
        obtain ⟨A, cap, e1, hc, h1⟩ := hx
        cases e1
        obtain ⟨bk, o, rfl, h2, h3, h4⟩ := h1 (by omega)
        refine ⟨rfl, _, run_idx hi he hne bk o _ _ k q hk, ⟨bk, o, by simp [hz'], hk, h2, h3, fun k' j hk' hj => ?_⟩, fun M hM => hM.elim⟩
        obtain rfl : j = 0 := by omega
        exact ⟨_, by rw [Nat.mul_one, Nat.add_zero]; exact h4 k' hk', rfl, rfl⟩
    | rs f n st cell =>
      simp only [idxA] at hy
      cases hz : Nat.beq e.size st with
      | false => rw [hz] at hy; cases hy
      | true =>
        rw [hz] at hy
        have hz' := Nat.eq_of_beq_eq_true hz
        cases hy
        rename_i k hm hk
        subst hm
        obtain ⟨A, cap, e1, hc, h1⟩ := hx
        cases e1
        obtain ⟨bk, o, rfl, h2, h3, h4⟩ := h1 (by omega)
        exact ⟨rfl, _, run_idx hi he hne bk o _ _ k q hk, ⟨bk, o, by rw [hz', Nat.add_zero], hk, h2, h3, h4⟩, fun M hM => hM.elim⟩
    | os L =>
      simp only [idxA] at hy
      split at hy
      · rename_i e' c hL0
        have hL := St.lv_at (hlx L rfl) hL0
        cases hz : Nat.beq e.size c.st with
        | false => rw [hz] at hy; cases hy
        | true =>
          rw [hz] at hy
          have hz' := Nat.eq_of_beq_eq_true hz
          cases hy
          rename_i k hm hk
          subst hm
          obtain ⟨_, e1⟩ := hx
          cases e1
          rcases h.blks L _ hL with ⟨h0, _⟩ | ⟨bk, o, cap, us, e2, hp, h1, h2, h3, h4⟩
          · omega
          · refine ⟨rfl, _, by rw [e2]; exact run_idx hi he hne bk o _ _ k q hk, ⟨rfl, by rw [e2, hz']; rfl, bk, o, fun j => by rw [e2]; rfl⟩, fun M hM => (show L = M from hM) ▸ ⟨_, hL⟩⟩
      · cases hy
    | _ => cases hy
  | _ => cases hy

theorem q_bin {op : BinOp} {t : TypeId} {x y a : AV} {v u : Value} {nb : Option Blk} {X Y : Operand} {own : Bool → Nat → Prop} (hx : Reps w own γ x .o [v]) (hy : Reps w own γ y .o [u]) (h : Yields (binA op x y) a nb) :
    nb = none ∧ ∃ r, (do eqGuard op t X Y v u; binOp op t v u : Sem Value).run P w = .ok r w ∧ Reps w own γ a .o [r] ∧ ∀ M, ¬ a.has M := by
  unfold binA at h
  split at h
  · rename_i k m
    cases hx
    split at h
    · rename_i k' n
      cases hy
      split at h
      · cases h
        rename_i h0
        exact ⟨rfl, _, by simp [eqGuard, binOp, Op.shift, show ¬ n < 0 by omega], rfl, fun _ h => h⟩
      · cases h
        rename_i h0
        exact ⟨rfl, _, by simp [eqGuard, binOp, Op.shift, show ¬ n < 0 by omega], rfl, fun _ h => h⟩
      · rename_i n1 n2
        cases hd : decide (k = k') with
        | false => rw [hd] at h; cases h
        | true =>
          rw [hd] at h
          simp only [cond_true] at h
          have hkk := of_decide_eq_true hd
          subst hkk
          cases op <;> simp only at h <;> first
            | (cases h; done)
            | (exact absurd rfl n1)
            | (exact absurd rfl n2)
            | skip
          all_goals cases h
          all_goals first
            | (refine ⟨rfl, _, ?_, rfl, fun _ h => h⟩
               first
                | (simp [eqGuard, binOp, Op.intArith]; done)
                | (simp [eqGuard, binOp, Op.intCmp]; done)
                | (simp [eqGuard, binOp, Op.intCmp]; rfl)
                | rfl)
            | (rename_i hp
               refine ⟨rfl, _, ?_, rfl, fun _ h => h⟩
               first
                | (have hw := wrap_in hp; simp [eqGuard, binOp, Op.intArith, hw]; done)
                | (obtain ⟨h0, hp⟩ := hp; have hw := wrap_in hp; simp [eqGuard, binOp, Op.intDiv, h0, hw]; done)
                | (simp [eqGuard, binOp, Op.intDiv, hp]; done))
    · cases h
  · cases hx
    split at h
    · cases hy
      split at h
      · cases h
        rename_i h0
        refine ⟨rfl, _, ?_, rfl, fun _ h => h⟩
        simp [eqGuard, binOp, Op.stringOp, IntKind.max, IntKind.signed, IntKind.bits]
        omega
      · cases h
        exact ⟨rfl, _, by simp [eqGuard, binOp, Op.stringOp], rfl, fun _ h => h⟩
      · cases h
        exact ⟨rfl, _, by simp [eqGuard, binOp, Op.stringOp], rfl, fun _ h => h⟩
      · cases h
    · cases h
  · cases h
end
end Go.Proofs.Ytbncmiglhjfcdaa
