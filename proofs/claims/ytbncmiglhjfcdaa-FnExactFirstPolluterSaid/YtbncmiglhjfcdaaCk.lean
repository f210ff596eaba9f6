/-
  All operations that leave old memory alone: the law for them all.
-/
import Derived.Test.YtbncmiglhjfcdaaCj
namespace Go.Proofs.Ytbncmiglhjfcdaa
open Go.RowKit
set_option linter.unusedVariables false

section
variable {P : Program} {τ : List (Nat × TyI)} {E : Ent0} {w : World} {s : St} {act : Act} {γ : Nm → Value}

theorem made_cell (z : Array Value) (n j k : Nat) (hj : j < z.size) (hk : k * z.size + j < n) : (madeCells z n).toList[k * z.size + j]? = z.toList[j]? := by
  have e : (k * z.size + j) % z.size = j := by rw [Nat.mul_comm, Nat.mul_add_mod]; exact Nat.mod_eq_of_lt hj
  simp [madeCells, hk, e, hj]

theorem q_make (h : Sim E s act w γ) {L : Nat} (hL : s.rblk L = none) (hlow : low ≤ L) {t : Nat} {i e : TyI} (hi : tyChk P t i = true) (he : tyChk P i.elem e = true) (hne : i.elem ≠ 0) (hsz : 0 < e.size) (hby : e.bytes ≤ 256)
    {q q' : IntKind} {n c : Nat} (hn : n ≤ c) (hc : c ≤ 274877906944) :
    QRes P E s act w ((Instr.makeSlice t (.int q n) (.int q' c)).run P w) L (.os (rt L)) (some (.row i.elem (zeroCt e.zero e.size n))) := by
  obtain ⟨inf, z, h1, h2, h3, h4, h5⟩ := tyChk_info he
  have hu := tyChk_elem hi hne
  have hzl : z.cells.size = e.size := by rw [← tyChk_zero he, zero_len h5]; simp
  obtain ⟨hz1, hz2, hz3⟩ := zeroB_spec (w := w) (own := E.ow (s.own γ)) (γ := γ) (ro := .o) h5
  obtain ⟨c1, c2, c3⟩ := zeroCt_spec e.zero (n := n) hsz (tyChk_zero he)
  have hr := run_make (P := P) w t i.elem inf z hu h1 h4 q q' n c (by omega) (by omega) (by
    rw [h3]
    have : (e.bytes : Int) * c ≤ 256 * 274877906944 := Int.mul_le_mul (by omega) (by omega) (by omega) (by omega)
    omega) (by omega)
  simp only [Int.toNat_natCast] at hr
  have hrow := new_row (e := i.elem) (cap := c) h hL hlow (c := zeroCt e.zero e.size n) (us := (madeCells z.cells (c * inf.size)).toList) (by omega) (by rw [c2]; simp [madeCells, h2]) (fun k j hk hj => by
    rw [c1] at hk; rw [c2] at hj ⊢
    have hlt : k * e.size + j < c * e.size := by
      have := Nat.mul_le_mul_right e.size (show k + 1 ≤ c by omega)
      rw [Nat.succ_mul] at this; omega
    obtain ⟨u, h6, h7⟩ := hz1.nth (j := j) (by rw [tyChk_zero he]; exact hj)
    have h8 := made_cell z.cells (c * inf.size) j k (by omega) (by rw [hzl, h2]; exact hlt)
    rw [hzl] at h8
    refine ⟨u, h8.trans h6, hz1.ones hz2 (fun L hL => absurd hL (hz3 L)) u (List.mem_of_getElem? h6), ?_⟩
    rcases c3 k j hk hj with e1 | ⟨e1, e2⟩
    · rw [e1]; exact h7
    · rw [e2] at h7; rw [e1]; exact h7) (fun k j _ _ M hM => by
      unfold zeroCt at hM
      split at hM
      · exact hM.elim
      · exact hM.elim
      · exact absurd (has_nth hM) (hz3 M))
  rw [c1, Array.toArray_toList] at hrow
  refine ⟨_, _, _, ?_, hrow, ⟨rfl, rfl⟩, fun M hM => (show rt L = M from hM) ▸ lv_addB⟩
  rw [upd_at]
  exact hr

theorem run_bounds {len cap l h : Nat} {lo hi : Option Int} {vl vh : Option Value} (hl : vl = lo.map (Value.int .i64) ∨ ∃ q, vl = lo.map (Value.int q)) (hh : ∃ q, vh = hi.map (Value.int q)) (h1 : lo.getD 0 = (l : Int)) (h2 : hi.getD len = (h : Int)) (h3 : l ≤ h) (h4 : h ≤ len) (h5 : len ≤ cap) :
    (Instr.sliceBounds true len cap vl vh none).run P w = .ok (l, h, cap) w := by
  obtain ⟨q', rfl⟩ := hh
  obtain ⟨q, rfl⟩ : ∃ q, vl = lo.map (Value.int q) := by rcases hl with e | e; exact ⟨_, e⟩; exact e
  have b1 : ∀ (k : IntKind) (a y : Nat) code, a ≤ y → (Instr.sliceBound (.int k (a : Int)) y code).run P w = .ok a w := fun k a y code ha => by
    simpa using run_sliceBound (P := P) w k a y code (by omega) (by omega)
  cases lo with
  | none =>
    have e0 : l = 0 := by simp at h1; omega
    subst e0
    cases hi with
    | none => have : h = len := by simp at h2; omega
              subst this; simp [Instr.sliceBounds]
    | some m => obtain rfl : m = (h : Int) := by simpa using h2
                simp [Instr.sliceBounds, b1 _ h cap _ (by omega)]
  | some m' =>
    obtain rfl : m' = (l : Int) := by simpa using h1
    cases hi with
    | none => have : h = len := by simp at h2; omega
              subst this; simp [Instr.sliceBounds, b1 _ l h _ (by omega)]
    | some m => obtain rfl : m = (h : Int) := by simpa using h2
                simp [Instr.sliceBounds, b1 _ h cap _ (by omega), b1 _ l h _ (by omega)]

theorem bnd_sound (h : Sim E s act w γ) {x : Option Operand} {b : Option Int} (hb : bndA (x.map s.ev) = some b) : ∃ q, x.map act.eval = b.map (Value.int q) := by
  cases x with
  | none => cases hb; exact ⟨.i64, rfl⟩
  | some x =>
    have hx := (ev_sound h x).1
    simp only [Option.map_some] at hb ⊢
    cases he : s.ev x with
    | int q m =>
      rw [he] at hb hx
      cases hb
      have hx' : act.eval x = .int q m := by simpa [Reps] using hx
      exact ⟨q, by rw [hx']; rfl⟩
    | _ => rw [he] at hb; cases hb

theorem q_slice (h : Sim E s act w γ) {t : Nat} {i e : TyI} (hi : tyChk P t i = true) (he : tyChk P i.elem e = true) (hne : i.elem ≠ 0) {x a : AV} {v : Value} {nb : Option Blk} {lo hi' : Option Operand}
    (hx : Reps w (E.ow (s.own γ)) γ x .o [v]) (hy : Yields (sliceA e.size x (lo.map s.ev) (hi'.map s.ev)) a nb) :
    nb = none ∧ ∃ r, (Instr.sliceAt t v (lo.map act.eval) (hi'.map act.eval) none).run P w = .ok r w ∧ Reps w (E.ow (s.own γ)) γ a .o [r] ∧ s.live a := by
  have hu := tyChk_elem hi hne
  obtain ⟨inf, z, i1, i2, i3, i4, i5⟩ := tyChk_info he
  unfold sliceA at hy
  cases hbl : bndA (lo.map s.ev) with
  | none => rw [hbl] at hy; cases hy
  | some bl =>
    cases hbh : bndA (hi'.map s.ev) with
    | none => rw [hbl, hbh] at hy; cases hy
    | some bh =>
      rw [hbl, hbh] at hy
      obtain ⟨q1, e1⟩ := bnd_sound h hbl
      obtain ⟨q2, e2⟩ := bnd_sound h hbh
      have key : ∀ (A : Option Addr) (n cap l m : Nat), bl.getD 0 = (l : Int) → bh.getD n = (m : Int) → l ≤ m → m ≤ n → n ≤ cap →
          (Instr.sliceAt t (.slice A n cap) (lo.map act.eval) (hi'.map act.eval) none).run P w = .ok (.slice (if cap = l then A else A.map (·.add (l * e.size))) (m - l) (cap - l)) w := by
        intro A n cap l m h1 h2 h3 h4 h5
        have hb := run_bounds (P := P) (w := w) (vl := lo.map act.eval) (vh := hi'.map act.eval) (.inr ⟨q1, e1⟩) ⟨q2, e2⟩ h1 h2 h3 h4 h5
        simp [Instr.sliceAt, Instr.slice, run_underlying hu, hb, sizeOf, typeInfo, i1, i2]
      cases x with
      | ri f q xs =>
        simp only at hy
        cases hz : Nat.beq e.size 1 with
        | false => rw [hz] at hy; cases hy
        | true =>
          rw [hz] at hy
          have hz' := Nat.eq_of_beq_eq_true hz
          cases hy
          rename_i l m h3 h1 h4 h2
          obtain ⟨A, cap, e3, hc, h5⟩ := hx
          cases e3
          have hlen : ((xs.take m).drop l).length = m - l := by simp [Nat.min_eq_left h4]
          refine ⟨rfl, _, key A _ cap l m h1 h2 h3 h4 hc, ⟨_, _, by rw [hlen], by omega, fun h0 => ?_⟩, fun M hM => hM.elim⟩
          obtain ⟨bk, o, rfl, h6, h7, h8⟩ := h5 (by omega)
          refine ⟨bk, o + l, by rw [if_neg (by omega)]; simp [add_at, hz'], h6, h7, fun k hk => ?_⟩
          rw [hlen] at hk
          rw [Nat.add_assoc, h8 (l + k) (by omega)]
          simp [show l + k < m by omega]
      | rs f n st cell =>
        simp only at hy
        cases hz : Nat.beq e.size st with
        | false => rw [hz] at hy; cases hy
        | true =>
          rw [hz] at hy
          have hz' := Nat.eq_of_beq_eq_true hz
          cases hy
          rename_i l m h3 h1 h4 h2
          obtain ⟨A, cap, e3, hc, h5⟩ := hx
          cases e3
          refine ⟨rfl, _, key A _ cap l m h1 h2 h3 h4 hc, ⟨_, _, rfl, by omega, fun h0 => ?_⟩, fun M hM => hM.elim⟩
          obtain ⟨bk, o, rfl, h6, h7, h8⟩ := h5 (by omega)
          refine ⟨bk, o + l * st, by rw [if_neg (by omega)]; simp [add_at, hz'], h6, h7, fun k j hk hj => ?_⟩
          obtain ⟨u, h9, ho, h10⟩ := h8 (k + l) j (by omega) hj
          exact ⟨u, by rw [← h9, Nat.add_mul]; congr 2; omega, ho, h10⟩
      | _ => cases hy

def ORes (P : Program) (E : Ent0) (s : St) (act : Act) (r : Result Next) (L : Nat) (a : AV) (nb : Option Blk) : Prop :=
  ∃ v w' γ', r = .ok (.value v) w' ∧ Sim E (s.addB L nb) act w' γ' ∧ Reps w' (E.ow ((s.addB L nb).own γ')) γ' a .o [v] ∧ (s.addB L nb).live a
theorem ORes.of {o : Oper} {m : Sem Value} {L : Nat} {a : AV} {nb : Option Blk} (h : QRes P E s act w (m.run P w) L a nb) (he : execOp act.eval o = (do let x ← m; pure (.value x))) :
    ORes P E s act ((execOp act.eval o).run P w) L a nb := by
  obtain ⟨v, w', γ', h1, h2⟩ := h
  exact ⟨v, w', γ', by rw [he]; simp [h1], h2⟩
theorem blt_pos {a b : Nat} (h : Nat.blt a b = true) : a < b := by simpa [Nat.blt_eq] using h

theorem tyChk_under {t : Nat} {i : TyI} (h : tyChk P t i = true) : ∃ d, P.underlying t = some d := by
  simp only [tyChk, Bool.and_eq_true] at h
  have h1 := h.1
  cases hd : P.underlying t with
  | none => rw [hd] at h1; cases h1
  | some d => exact ⟨d, rfl⟩
theorem q_slice0 (h : Sim E s act w γ) {t : Nat} {i e : TyI} (hi : tyChk P t i = true) (he : tyChk P i.elem e = true) (hne : i.elem ≠ 0) {x a : AV} {v : Value} {nb : Option Blk} {lo : Option Operand} {hi' mx : Operand}
    (hx : Reps w (E.ow (s.own γ)) γ x .o [v]) (hlx : s.live x) (hy : Yields (slice0A s x (lo.map s.ev) (s.ev hi') (s.ev mx)) a nb) :
    nb = none ∧ ∃ r, (Instr.sliceAt t v (lo.map act.eval) (some (act.eval hi')) (some (act.eval mx))).run P w = .ok r w ∧ Reps w (E.ow (s.own γ)) γ a .o [r] ∧ ∀ M, ¬ a.has M := by
  have hu := tyChk_elem hi hne
  obtain ⟨inf, z, i1, i2, i3, i4, i5⟩ := tyChk_info he
  unfold slice0A at hy
  split at hy
  · rename_i q1 m1 q2 m2 e0 e1 e2
    cases hd : (decide (m1 = 0) && decide (m2 = 0)) with
    | false => rw [hd] at hy; cases hy
    | true =>
      rw [hd] at hy
      simp only [cond_true] at hy
      simp only [Bool.and_eq_true, decide_eq_true_eq] at hd
      obtain ⟨rfl, rfl⟩ := hd
      have hlo : lo = none := by cases lo with | none => rfl | some _ => cases e0
      subst hlo
      have v1 : act.eval hi' = .int q1 0 := by have := (ev_sound h hi').1; rw [e1] at this; simpa [Reps] using this
      have v2 : act.eval mx = .int q2 0 := by have := (ev_sound h mx).1; rw [e2] at this; simpa [Reps] using this
      have key : ∀ (A : Option Addr) (n cap : Nat), v = .slice A n cap → ∃ r, (Instr.sliceAt t v (Option.map act.eval none) (some (act.eval hi')) (some (act.eval mx))).run P w = .ok r w ∧ Reps w (E.ow (s.own γ)) γ .e0 .o [r] ∧ ∀ M, ¬ AV.e0.has M := by
        rintro A n cap rfl
        refine ⟨.slice A 0 0, ?_, ⟨A, rfl⟩, fun M h => h⟩
        rw [v1, v2]
        have b1 := run_sliceBound (P := P) w q2 0 cap .slice3Acap (by omega) (by omega)
        have b2 := run_sliceBound (P := P) w q1 0 0 .slice3B (by omega) (by omega)
        simp only [Int.toNat_zero] at b1 b2
        simp [Instr.sliceAt, Instr.slice, run_underlying hu, Instr.sliceBounds, b1, b2, sizeOf, typeInfo, i1]
      split at hy
      · obtain ⟨A, cap, e3, _⟩ := hx; cases hy; exact ⟨rfl, key _ _ _ (List.cons.inj e3).1⟩
      · obtain ⟨A, cap, e3, _⟩ := hx; cases hy; exact ⟨rfl, key _ _ _ (List.cons.inj e3).1⟩
      · cases hy; exact ⟨rfl, key none 0 0 (by simpa [Reps] using hx)⟩
      · obtain ⟨A, e3⟩ := hx; cases hy; exact ⟨rfl, key _ _ _ (List.cons.inj e3).1⟩
      · rename_i N
        obtain ⟨_, e3⟩ := hx
        split at hy
        · rename_i e4 c hN
          cases hy
          rcases h.blks N _ (St.lv_at (hlx N rfl) hN) with ⟨h0, A, e5⟩ | ⟨bk, o, cap, us, e5, _⟩
          · exact ⟨rfl, key _ _ _ ((List.cons.inj e3).1.trans e5)⟩
          · exact ⟨rfl, key _ _ _ ((List.cons.inj e3).1.trans e5)⟩
        · cases hy
      · cases hy
  · cases hy

theorem q_len (h : Sim E s act w γ) {t : Nat} {i : TyI} (hi : tyChk P t i = true) {x a : AV} {v : Value} {nb : Option Blk} {ty : TypeId}
    (hx : Reps w (E.ow (s.own γ)) γ x .o [v]) (hlx : s.live x) (hy : Yields (lenA s (bif Nat.blt 0 i.elem then 0 else bif i.mp.isSome then 1 else 3) x) a nb) :
    nb = none ∧ ∃ r, (Builtin.len_ #[t] ty #[v]).run P w = .ok r w ∧ Reps w (E.ow (s.own γ)) γ a .o [r] ∧ ∀ M, ¬ a.has M := by
  have isS : ∀ {k : Nat}, Nat.beq (bif Nat.blt 0 i.elem then 0 else bif i.mp.isSome then 1 else 3) 0 = true → ∀ (A : Option Addr) (n cp : Nat), v = .slice A n cp → (Builtin.len_ #[t] ty #[v]).run P w = .ok (.int .i64 n) w := by
    intro k hk A n cp hv
    have hb : Nat.blt 0 i.elem = true := by
      cases hb : Nat.blt 0 i.elem with
      | true => rfl
      | false => rw [hb] at hk; cases hm : i.mp.isSome <;> (rw [hm] at hk; simp at hk)
    have hu := tyChk_elem hi (by have := blt_pos hb; omega)
    simp [Builtin.len_, run_underlying hu, hv, goInt]
  cases x with
  | ri f q xs =>
    simp only [lenA] at hy
    cases hk : Nat.beq (bif Nat.blt 0 i.elem then 0 else bif i.mp.isSome then 1 else 3) 0 with
    | false => rw [hk] at hy; cases hy
    | true =>
      rw [hk] at hy; cases hy
      obtain ⟨A, cap, e, _⟩ := hx
      exact ⟨rfl, _, isS (k := 0) hk A _ cap (List.cons.inj e).1, rfl, fun M h => h⟩
  | rs f n st cell =>
    simp only [lenA] at hy
    cases hk : Nat.beq (bif Nat.blt 0 i.elem then 0 else bif i.mp.isSome then 1 else 3) 0 with
    | false => rw [hk] at hy; cases hy
    | true =>
      rw [hk] at hy; cases hy
      obtain ⟨A, cap, e, _⟩ := hx
      exact ⟨rfl, _, isS (k := 0) hk A _ cap (List.cons.inj e).1, rfl, fun M h => h⟩
  | nl =>
    simp only [lenA] at hy
    cases hk : Nat.beq (bif Nat.blt 0 i.elem then 0 else bif i.mp.isSome then 1 else 3) 0 with
    | false => rw [hk] at hy; cases hy
    | true =>
      rw [hk] at hy; cases hy
      exact ⟨rfl, _, isS (k := 0) hk none 0 0 (by simpa [Reps] using hx), rfl, fun M h => h⟩
  | e0 =>
    simp only [lenA] at hy
    cases hk : Nat.beq (bif Nat.blt 0 i.elem then 0 else bif i.mp.isSome then 1 else 3) 0 with
    | false => rw [hk] at hy; cases hy
    | true =>
      rw [hk] at hy; cases hy
      obtain ⟨A, e⟩ := hx
      exact ⟨rfl, _, isS (k := 0) hk A 0 0 (List.cons.inj e).1, rfl, fun M h => h⟩
  | os N =>
    simp only [lenA] at hy
    cases hk : Nat.beq (bif Nat.blt 0 i.elem then 0 else bif i.mp.isSome then 1 else 3) 0 with
    | false => rw [hk] at hy; cases hy
    | true =>
      rw [hk] at hy
      simp only [cond_true] at hy
      obtain ⟨_, e⟩ := hx
      split at hy
      · rename_i e2 c hN
        cases hy
        rcases h.blks N _ (St.lv_at (hlx N rfl) hN) with ⟨h0, A, e5⟩ | ⟨bk, o, cap, us, e5, _⟩
        · exact ⟨rfl, _, isS (k := 0) hk A 0 0 ((List.cons.inj e).1.trans e5), by rw [h0]; rfl, fun M h => h⟩
        · exact ⟨rfl, _, isS (k := 0) hk _ _ cap ((List.cons.inj e).1.trans e5), rfl, fun M h => h⟩
      · cases hy
  | om L =>
    simp only [lenA] at hy
    cases hk : Nat.beq (bif Nat.blt 0 i.elem then 0 else bif i.mp.isSome then 1 else 3) 1 with
    | false => rw [hk] at hy; cases hy
    | true =>
      rw [hk] at hy
      simp only [cond_true] at hy
      obtain ⟨_, e⟩ := hx
      have hm : i.mp.isSome = true := by
        cases hm : i.mp.isSome with
        | true => rfl
        | false => rw [hm] at hk; cases hb : Nat.blt 0 i.elem <;> (rw [hb] at hk; simp at hk)
      obtain ⟨⟨kt, et⟩, hmp⟩ := Option.isSome_iff_exists.1 hm
      have hu := tyChk_mp hi hmp
      split at hy
      · rename_i t' m hL
        cases hy
        obtain ⟨r, es, clock, h1, h2, h3⟩ := h.blks _ _ (St.lv_at (hlx L rfl) hL)
        have hv : v = .map (some r) := (List.cons.inj e).1.trans h1
        refine ⟨rfl, .int .i64 es.size, ?_, ?_, fun M h => h⟩
        · simp [Builtin.len_, run_underlying hu, hv, Go.MapKept.run_getObj_map h2, goInt]
        · have : es.size = m.len := by
            have := congrArg List.length h3
            rw [List.length_map, Array.length_toList] at this
            rw [this]
            cases m <;> simp [Mc.entries, Mc.len]
          rw [this]; rfl
      · cases hy
  | s b =>
    simp only [lenA] at hy
    cases hk : Nat.beq (bif Nat.blt 0 i.elem then 0 else bif i.mp.isSome then 1 else 3) 2 with
    | false => rw [hk] at hy; cases hy
    | true => exact absurd hk (by cases Nat.blt 0 i.elem <;> cases i.mp.isSome <;> simp)
  | _ => cases hy
set_option maxHeartbeats 1000000 in
theorem q_sound (hτ : TyOk P τ) (h : Sim E s act w γ) {o : Oper} {L : Nat} {a : AV} {nb : Option Blk} (hy : Yields (q τ L s o.op) a nb) (hL : nb = none ∨ (s.rblk L = none ∧ low ≤ L)) :
    ORes P E s act ((execOp act.eval o).run P w) L a nb := by
  have same : ∀ {v : Value} {m : Sem Value} {a : AV}, m.run P w = .ok v w → Reps w (E.ow (s.own γ)) γ a .o [v] → s.live a → execOp act.eval o = (do let x ← m; pure (.value x)) → ORes P E s act ((execOp act.eval o).run P w) L a none :=
    fun hr hv hl he => ORes.of (QRes.same h hr hv hl) he
  have nomem : ∀ {a : AV}, (∀ M, ¬ a.has M) → s.live a := fun ha M hM => absurd hM (ha M)
  unfold q at hy
  split at hy
  · rename_i x ho
    cases hy
    exact ⟨_, w, γ, by simp [execOp, ho], h, (ev_sound h x).1, (ev_sound h x).2⟩
  · rename_i x ho
    cases hy
    exact ⟨_, w, γ, by simp [execOp, ho], h, (ev_sound h x).1, (ev_sound h x).2⟩
  · rename_i c x y ho
    have hc := (ev_sound h c).1
    split at hy
    · rename_i he
      rw [he] at hc
      have hc' : act.eval c = .bool true := by simpa [Reps] using hc
      cases hy
      exact ⟨_, w, γ, by simp [execOp, ho, hc', asBool], h, (ev_sound h x).1, (ev_sound h x).2⟩
    · rename_i he
      rw [he] at hc
      have hc' : act.eval c = .bool false := by simpa [Reps] using hc
      cases hy
      exact ⟨_, w, γ, by simp [execOp, ho, hc', asBool], h, (ev_sound h y).1, (ev_sound h y).2⟩
    · rename_i z he
      rw [he] at hc
      have hc' : act.eval c = .bool z := by simpa [Reps] using hc
      cases hy
      · rename_i hz
        subst hz
        exact ⟨_, w, γ, by simp [execOp, ho, hc', asBool], h, (ev_sound h x).1, (ev_sound h x).2⟩
      · rename_i hz
        subst hz
        exact ⟨_, w, γ, by simp [execOp, ho, hc', asBool], h, (ev_sound h y).1, (ev_sound h y).2⟩
    · cases hy
  · rename_i t ho
    split at hy
    · rename_i i hi
      cases hy
      exact ORes.of (q_alloc h (hL.resolve_left (by simp)).1 (hL.resolve_left (by simp)).2 (hτ _ _ hi)) (by simp only [execOp, ho])
    · cases hy
  · rename_i t x ho
    cases hf : (s.ev x).flat with
    | false => rw [hf] at hy; cases hy
    | true =>
      rw [hf] at hy
      cases hy
      exact ORes.of (q_box h (hL.resolve_left (by simp)).1 (hL.resolve_left (by simp)).2 (ev_sound h x).1 (ev_sound h x).2 hf t) (by simp only [execOp, ho])
  · rename_i t x ho
    split at hy
    · rename_i i hi
      obtain ⟨rfl, u, h1, h2, h3⟩ := load_sound h (hτ _ _ hi) (ev_sound h x).1 (ev_sound h x).2 hy
      exact same h1 h2 h3 (by simp only [execOp, ho])
    · cases hy
  · rename_i x ho
    have hx := ev_sound h x
    have key : ∀ {a : AV}, s.ev x = a → (∃ bk o, act.eval x = .pointer (some ⟨bk, o, none⟩)) → ORes P E s act ((execOp act.eval o).run P w) L a none := by
      rintro a e ⟨bk, o', hv⟩
      rw [e] at hx
      exact ⟨act.eval x, w, γ, by simp [execOp, ho, hv], h, hx.1, hx.2⟩
    split at hy
    · rename_i M j he
      cases hy
      refine key he ?_
      rw [he] at hx
      obtain ⟨_, e1, bk, o', hp⟩ := hx.1
      exact ⟨_, _, by have := List.cons.inj e1; rw [this.1, hp]⟩
    · rename_i N st k j he
      cases hy
      refine key he ?_
      rw [he] at hx
      obtain ⟨_, e1, bk, o', hp⟩ := hx.1
      exact ⟨_, _, by have := List.cons.inj e1; rw [this.1, hp]⟩
    · rename_i f n st cell k j he
      cases hy
      refine key he ?_
      rw [he] at hx
      obtain ⟨bk, o', e1, _⟩ := hx.1
      exact ⟨_, _, by have := List.cons.inj e1; exact this.1⟩
    · cases hy
  · rename_i t x f ho
    split at hy
    · rename_i i hi
      cases ha : i.agg with
      | false => rw [ha] at hy; cases hy
      | true =>
        rw [ha] at hy
        simp only [cond_true] at hy
        split at hy
        · rename_i o' z hf
          cases hz : Nat.blt 0 z with
          | false => rw [hz] at hy; cases hy
          | true =>
            rw [hz] at hy
            simp only [cond_true] at hy
            split at hy
            · cases hy
            · rename_i hnt
              cases hy
              obtain ⟨u, h1, h2⟩ := q_field (hτ _ _ hi) ha hf (blt_pos hz) (ev_sound h x).1 hnt
              exact same h1 h2 (fun M hM => (ev_sound h x).2 M (has_addA hM)) (by simp only [execOp, ho])
        · cases hy
    · cases hy
  · rename_i t x ix ho
    split at hy
    · rename_i i hi
      split at hy
      · rename_i e he
        cases hz : Nat.blt 0 i.elem with
        | false => rw [hz] at hy; cases hy
        | true =>
          rw [hz] at hy
          obtain ⟨rfl, u, h1, h2, h3⟩ := q_idx h (hτ _ _ hi) (hτ _ _ he) (by have := blt_pos hz; omega) (ev_sound h x).1 (ev_sound h x).2 (ev_sound h ix).1 hy
          exact same h1 h2 h3 (by simp only [execOp, ho])
      · cases hy
    · cases hy
  · rename_i op t x y t' ho
    obtain ⟨rfl, r, h1, h2, h3⟩ := q_bin (P := P) (t := t) (X := x) (Y := y) (ev_sound h x).1 (ev_sound h y).1 hy
    exact same h1 h2 (nomem h3) (by simp only [execOp, ho])
  · rename_i t x ho
    have hx := (ev_sound h x).1
    unfold notA at hy
    split at hy
    · rename_i he
      rw [he] at hx
      have hx' : act.eval x = .bool true := by simpa [Reps] using hx
      cases hy
      exact same (v := .bool false) (m := Op.unary .not (act.eval x)) (by rw [hx']; simp [Op.unary]) rfl (fun M hM => hM.elim) (by simp only [execOp, ho])
    · rename_i he
      rw [he] at hx
      have hx' : act.eval x = .bool false := by simpa [Reps] using hx
      cases hy
      exact same (v := .bool true) (m := Op.unary .not (act.eval x)) (by rw [hx']; simp [Op.unary]) rfl (fun M hM => hM.elim) (by simp only [execOp, ho])
    · rename_i z he
      rw [he] at hx
      have hx' : act.eval x = .bool z := by simpa [Reps] using hx
      cases hy
      exact same (v := .bool (!z)) (m := Op.unary .not (act.eval x)) (by rw [hx']; simp [Op.unary]) rfl (fun M hM => hM.elim) (by simp only [execOp, ho])
    · cases hy
  · rename_i src dst x ho
    have hx := (ev_sound h x).1
    split at hy
    · rename_i i0 i k n hi0 hi he
      rw [he] at hx
      have hx' : act.eval x = .int k n := by simpa [Reps] using hx
      split at hy
      · rename_i kd hkd
        have hu := tyChk_ik (hτ _ _ hi) hkd
        obtain ⟨d0, hd0⟩ := tyChk_under (hτ _ _ hi0)
        have hr : (convert src dst (act.eval x)).run P w = .ok (.int kd (kd.wrap n)) w := by
          rw [hx']
          simp [convert, run_underlying hd0, run_underlying hu, Conv.intToInt]
        cases hy
        · rename_i hin
          rw [wrap_in hin] at hr
          exact same hr rfl (fun M hM => hM.elim) (by simp only [execOp, ho])
        · exact same hr rfl (fun M hM => hM.elim) (by simp only [execOp, ho])
      · cases hy
    · cases hy
  · rename_i x n ho
    have hx := ev_sound h x
    split at hy
    · rename_i l he
      cases hb : Nat.blt n l.len with
      | false => rw [hb] at hy; cases hy
      | true =>
        rw [hb] at hy
        cases hy
        rw [he] at hx
        obtain ⟨⟨us, e, h1⟩, h2⟩ := hx
        have e' : act.eval x = .tuple us.toArray := by simpa using e
        obtain ⟨u, h3, h4⟩ := h1.nth (blt_pos hb)
        exact same (v := u) (m := Instr.extract (act.eval x) n) (by rw [e']; simp [Instr.extract, h3]) h4 (fun M hM => h2 M (show l.has M from has_nth hM)) (by simp only [execOp, ho])
    · cases hy
  · rename_i t parts ho
    split at hy
    · rename_i i hi
      cases ha : i.agg with
      | false => rw [ha] at hy; cases hy
      | true =>
        rw [ha] at hy
        simp only [cond_true] at hy
        split at hy
        · rename_i l hf
          cases hy
          obtain ⟨v, h1, h2, h3⟩ := build_sound h (hτ _ _ hi) ha hf
          exact same h1 h2 h3 (by simp only [execOp, ho])
        · cases hy
    · cases hy
  · rename_i t len parts ho
    split at hy
    · rename_i i hi
      cases hz : Nat.blt 0 i.elem with
      | false => rw [hz] at hy; cases hy
      | true =>
        rw [hz] at hy
        simp only [cond_true] at hy
        split at hy
        · rename_i e he
          cases hb : (Nat.blt 0 e.size && Nat.ble (len * e.size) 16777216) with
          | false => rw [hb] at hy; cases hy
          | true =>
            rw [hb] at hy
            simp only [cond_true] at hy
            simp only [Bool.and_eq_true] at hb
            split at hy
            · rename_i l hp
              cases hl : Nat.beq l.len (len * e.size) with
              | false => rw [hl] at hy; cases hy
              | true =>
                rw [hl] at hy
                cases hy
                exact ORes.of (q_buildSlice h (hL.resolve_left (by simp)).1 (hL.resolve_left (by simp)).2 (hτ _ _ hi) (hτ _ _ he) (by have := blt_pos hz; omega) (blt_pos hb.1) (Nat.le_of_ble_eq_true hb.2) hp (Nat.eq_of_beq_eq_true hl)) (by simp only [execOp, ho])
            · cases hy
        · cases hy
    · cases hy
  · rename_i t l c ho
    split at hy
    · rename_i i hi
      cases hz : Nat.blt 0 i.elem with
      | false => rw [hz] at hy; cases hy
      | true =>
        rw [hz] at hy
        simp only [cond_true] at hy
        split at hy
        · rename_i e he
          cases hb : (Nat.blt 0 e.size && Nat.ble e.bytes 256) with
          | false => rw [hb] at hy; cases hy
          | true =>
            rw [hb] at hy
            simp only [cond_true] at hy
            simp only [Bool.and_eq_true] at hb
            have hl := (ev_sound h l).1
            have hc := (ev_sound h c).1
            split at hy
            · rename_i k m k' m' hel hec
              rw [hel] at hl
              rw [hec] at hc
              have hl' : act.eval l = .int k m := by simpa [Reps] using hl
              have hc' : act.eval c = .int k' m' := by simpa [Reps] using hc
              cases hy
              rename_i n cp h2 h4 h1 h3
              subst h1
              subst h3
              refine ORes.of (q_make h (hL.resolve_left (by simp)).1 (hL.resolve_left (by simp)).2 (hτ _ _ hi) (hτ _ _ he) (by have := blt_pos hz; omega) (blt_pos hb.1) (Nat.le_of_ble_eq_true hb.2) (q := k) (q' := k') h2 h4) ?_
              simp only [execOp, ho, hl', hc']
            · cases hy
        · cases hy
    · cases hy
  · rename_i t ho
    split at hy
    · rename_i i hi
      split at hy
      · rename_i k e hm
        split at hy
        · rename_i ki ei hki hei
          cases hb : (decide (ki.ik = some .i64) && !ei.agg) with
          | false => rw [hb] at hy; cases hy
          | true =>
            rw [hb] at hy
            simp only [cond_true] at hy
            split at hy
            · rename_i m hmp
              cases hy
              exact ORes.of (q_makeMap h (hL.resolve_left (by simp)).1 (hL.resolve_left (by simp)).2 hmp) (by simp only [execOp, ho, Option.map_none])
            · cases hy
        · cases hy
      · cases hy
    · cases hy
  · rename_i t x ix ok ho
    split at hy
    · rename_i i hi
      split at hy
      · rename_i k e hm
        split at hy
        · rename_i ki ei hki hei
          cases hb : (decide (ki.ik = some .i64) && !ei.agg) with
          | false => rw [hb] at hy; cases hy
          | true =>
            rw [hb] at hy
            simp only [cond_true] at hy
            simp only [Bool.and_eq_true, decide_eq_true_eq, Bool.not_eq_true'] at hb
            obtain ⟨rfl, r, h1, h2, h3⟩ := q_lookup h (hτ _ _ hi) hm (hτ _ _ hki) hb.1 (hτ _ _ hei) hb.2 (ev_sound h x).1 (ev_sound h x).2 (ev_sound h ix).1 hy
            exact same h1 h2 (nomem h3) (by simp only [execOp, ho])
        · cases hy
      · cases hy
    · cases hy
  · rename_i t x lo hi' ho
    split at hy
    · rename_i i hi
      split at hy
      · rename_i e he
        cases hz : Nat.blt 0 i.elem with
        | false => rw [hz] at hy; cases hy
        | true =>
          rw [hz] at hy
          obtain ⟨rfl, r, h1, h2, h3⟩ := q_slice h (hτ _ _ hi) (hτ _ _ he) (by have := blt_pos hz; omega) (ev_sound h x).1 hy
          exact same h1 h2 h3 (by simp only [execOp, ho, Option.map_none])
      · cases hy
    · cases hy
  · rename_i t x lo hi' mx ho
    split at hy
    · rename_i i hi
      split at hy
      · rename_i e he
        cases hz : Nat.blt 0 i.elem with
        | false => rw [hz] at hy; cases hy
        | true =>
          rw [hz] at hy
          obtain ⟨rfl, r, h1, h2, h3⟩ := q_slice0 h (hτ _ _ hi) (hτ _ _ he) (by have := blt_pos hz; omega) (ev_sound h x).1 (ev_sound h x).2 (lo := lo) (hi' := hi') (mx := mx) hy
          exact same h1 h2 (nomem h3) (by simp only [execOp, ho, Option.map_some])
      · cases hy
    · cases hy
  · rename_i f first caps ho
    cases hf : first.isEmpty with
    | false => rw [hf] at hy; cases hy
    | true =>
      rw [hf] at hy
      cases hy
      have hfe : first = #[] := by simpa using hf
      obtain ⟨h1, h2⟩ := evs_sound h caps.toList
      refine ⟨.func (.func f) #[] (caps.map act.eval), w, γ, by simp [execOp, ho, Instr.makeFunc, hfe], h, ⟨_, ?_, h1⟩, h2⟩
      rw [← Array.toList_map, Array.toArray_toList]
  · rename_i c ho
    split at hy
    · rename_i hcal
      split at hy
      · rename_i x t hx ht
        have hca : c.args = #[x] := by simpa using congrArg List.toArray hx
        have hct : c.argTypes = #[t] := by simpa using congrArg List.toArray ht
        split at hy
        · rename_i i hi
          obtain ⟨rfl, r, h1, h2, h3⟩ := q_len (ty := o.type) h (hτ _ _ hi) (ev_sound h x).1 (ev_sound h x).2 hy
          exact ⟨r, w, γ, by simp [execOp, ho, resolve, hcal, hca, hct, invoke, builtin, h1], h, h2, nomem h3⟩
        · cases hy
      · cases hy
    · rename_i hcal
      split at hy
      · rename_i x y hx
        have hca : c.args = #[x, y] := by simpa using congrArg List.toArray hx
        split at hy
        · rename_i m n hm hn
          have h1 := (ev_sound h x).1
          have h2 := (ev_sound h y).1
          rw [hm] at h1
          rw [hn] at h2
          have h1' : act.eval x = .int .i64 m := by simpa [Reps] using h1
          have h2' : act.eval y = .int .i64 n := by simpa [Reps] using h2
          cases hy
          refine ⟨.int .i64 (min m n), w, γ, ?_, h, rfl, fun M hM => hM.elim⟩
          have := run_min_int2 (P := P) w c.argTypes o.type .i64 .i64 m n
          simp [execOp, ho, resolve, hcal, hca, invoke, builtin, h1', h2', this]
          omega
        · cases hy
      · cases hy
    · rename_i hcal
      split at hy
      · rename_i x y hx
        have hca : c.args = #[x, y] := by simpa using congrArg List.toArray hx
        split at hy
        · rename_i m n hm hn
          have h1 := (ev_sound h x).1
          have h2 := (ev_sound h y).1
          rw [hm] at h1
          rw [hn] at h2
          have h1' : act.eval x = .int .i64 m := by simpa [Reps] using h1
          have h2' : act.eval y = .int .i64 n := by simpa [Reps] using h2
          cases hy
          refine ⟨.int .i64 (max m n), w, γ, ?_, h, rfl, fun M hM => hM.elim⟩
          have := run_max_int2 (P := P) w c.argTypes o.type .i64 .i64 m n
          simp [execOp, ho, resolve, hcal, hca, invoke, builtin, h1', h2', this]
          omega
        · cases hy
      · cases hy
    · split at hy <;> cases hy
    · cases hy
  · cases hy
end
end Go.Proofs.Ytbncmiglhjfcdaa
