/-
  The conditions under which a piece of code does what is said: operations serve.
-/
import Derived.Test.YtbncmiglhjfcdaaCu
namespace Go.Proofs.Ytbncmiglhjfcdaa
open Go.RowKit
set_option linter.unusedVariables false

section
variable {P : Program} {τ : List (Nat × TyI)} {sf : Option (List Nat)} {E : Ent0} {w : World} {s : St} {a : Act} {γ : Nm → Value}

theorem put_none (a : Act) (v : Value) : a.put none v = a := rfl
/-- A call. -/
theorem callVC_sound {o : Oper} {d f : Nat} {args : AV} {Q : Exit → Act → World → Prop} {c : Call} {X : Operand} {caps : AV} (ho : o.op = .call c) (hc : c.callee = .value X) (he : s.ev X = .fn f caps) (hargs : args = (s.evs c.args.toList).app caps) (hs : Sim E s a w γ)
    {nw : Bool} {ns : List Nm} {a0 r : AV} {σ0 σ : List (Nat × Blk)} (hF : Fn P f nw a0 σ0 r σ) (hok : CallOk s ns d nw args a0 σ0 σ) {R : Act → World → Prop}
    (fin : ∀ v w' γ', Sim E (s.after ns d σ) a w' γ' → Reps w' (E.ow ((s.after ns d σ).own γ')) γ' (r.rn (ren ns d)) .o [v] → (s.after ns d σ).live (r.rn (ren ns d)) → R (a.put o.dst v) w') : o.wp P a w R Q := by
  obtain ⟨fn, body, e1, e2, e3⟩ := hF.1
  obtain ⟨hr1, hl1⟩ := evs_sound hs c.args.toList
  obtain ⟨hr2, hl2⟩ := ev_sound hs X
  rw [he] at hr2 hl2
  obtain ⟨us, e4, hr3⟩ := hr2
  have e4' : a.eval X = .func (.func f) #[] us.toArray := by simpa using e4
  subst hargs
  have hcall := Fn.call hF hs hok (hr1.app hr3) (fun M hM => (has_app hM).elim (hl1 M) (hl2 M))
  have hrun : (execOp a.eval o).run P w = .ok (.enter f (c.args.toList.map a.eval ++ us).toArray) w := by
    have := run_enter (P := P) e1 e2 e3 ((c.args.toList.map a.eval ++ us).toArray) w
    unfold execOp
    simp only [ho, resolve, hc, Sem.run_bind, Deferred.ofValue, e4', Sem.run_pure, Result.andThen_ok, invoke, Array.empty_append]
    have e5 : c.args.map a.eval ++ us.toArray = (c.args.toList.map a.eval ++ us).toArray := by
      apply Array.ext'
      simp
    rw [e5]
    exact this
  unfold Oper.wp
  rw [hrun]
  refine Calls.mono hcall fun e w' => ?_
  rintro ⟨v, γ', rfl, h2, h3, h4⟩
  exact fin v w' γ' h2 h3 h4

/-- A slice held against nil. -/
theorem nil_run {op : BinOp} {t e : Nat} {X Y : Operand} (ht : P.underlying t = some (.slice e)) (A : Option Addr) (n c : Nat) (hop : op = .eql ∨ op = .neq) :
    (do eqGuard op t X Y (.slice A n c) (.slice none 0 0); binOp op t (.slice A n c) (.slice none 0 0) : Sem Value).run P w = .ok (.bool (bif op == .eql then A.isNone else !A.isNone)) w := by
  rcases hop with rfl | rfl
  · simp [eqGuard, Lib.run_eql_slice_nil w t e A n c 0 0 ht]
  · simp [eqGuard, run_neq_slice_nil_any w t e A n c 0 0 ht]
    rfl
theorem nilVC_sound {o : Oper} {d t : Nat} {op : BinOp} {x : Operand} {t' : Nat} {K : St → Prop} {Q : Exit → Act → World → Prop} (hτ : TyOk P τ) (ho : o.op = .binOp op t x (.const (.slice none 0 0)) t') (hd : o.dst = some d) (hdn : d < s.n) (hs : Sim E s a w γ)
    (h : nilVC τ s d t op (s.ev x) K) : o.wp P a w (fun a' w' => ∃ s', K s' ∧ Den E s' a' w') Q := by
  have fin : ∀ {A : Option Addr} {n c : Nat} {e : Nat} (b : Bool), P.underlying t = some (.slice e) → a.eval x = .slice A n c → (op = .eql ∨ op = .neq) → (bif op == .eql then A.isNone else !A.isNone) = b → K (s.put d (bif b then .tt else .ff)) → o.wp P a w (fun a' w' => ∃ s', K s' ∧ Den E s' a' w') Q := by
    intro A n c e b ht he hop hb hK
    have hr := nil_run (w := w) (X := x) (Y := .const (.slice none 0 0)) ht A n c hop
    have hev : a.eval (.const (.slice none 0 0)) = .slice none 0 0 := rfl
    unfold Oper.wp
    simp only [execOp, ho, he, hev, hr, Sem.run_bind, Result.andThen_ok, Sem.run_pure, Oper.upon]
    show ∃ s', K s' ∧ Den E s' (a.put o.dst (.bool _)) w
    rw [hd, hb]
    exact ⟨_, hK, γ, hs.put hdn (by cases b <;> rfl) (fun M hM => by cases b <;> exact hM.elim)⟩
  have hx := (ev_sound hs x).1
  unfold nilVC at h
  split at h
  · rename_i i hi
    cases hb : Nat.blt 0 i.elem with
    | false => rw [hb] at h; exact h.elim
    | true =>
      rw [hb] at h
      simp only [cond_true] at h
      have ht := tyChk_elem (hτ _ _ hi) (by have := blt_pos hb; omega)
      split at h
      · split at h
        · rename_i he
          rw [he] at hx
          obtain ⟨A, cap, e1, hc, h1⟩ := hx
          have e2 := (List.cons.inj e1).1
          cases A with
          | none =>
            refine fin true ht e2 (.inl rfl) rfl (h.1 (Nat.eq_zero_of_not_pos (fun h0 => by obtain ⟨_, _, h2, _⟩ := h1 h0; cases h2))).out
          | some A => exact fin false ht e2 (.inl rfl) rfl h.2.out
        · rename_i he
          rw [he] at hx
          obtain ⟨A, cap, e1, hc, h1⟩ := hx
          have e2 := (List.cons.inj e1).1
          cases A with
          | none =>
            refine fin true ht e2 (.inl rfl) rfl (h.1 (Nat.eq_zero_of_not_pos (fun h0 => by obtain ⟨_, _, h2, _⟩ := h1 h0; cases h2))).out
          | some A => exact fin false ht e2 (.inl rfl) rfl h.2.out
        · rename_i he
          rw [he] at hx
          have e2 : a.eval x = .slice none 0 0 := by simpa [Reps] using hx
          exact fin true ht e2 (.inl rfl) rfl h
        · exact h.elim
      · split at h
        · rename_i he
          rw [he] at hx
          obtain ⟨A, cap, e1, hc, h1⟩ := hx
          have e2 := (List.cons.inj e1).1
          cases A with
          | none =>
            refine fin false ht e2 (.inr rfl) rfl (h.1 (Nat.eq_zero_of_not_pos (fun h0 => by obtain ⟨_, _, h2, _⟩ := h1 h0; cases h2))).out
          | some A => exact fin true ht e2 (.inr rfl) rfl h.2.out
        · rename_i he
          rw [he] at hx
          obtain ⟨A, cap, e1, hc, h1⟩ := hx
          have e2 := (List.cons.inj e1).1
          cases A with
          | none =>
            refine fin false ht e2 (.inr rfl) rfl (h.1 (Nat.eq_zero_of_not_pos (fun h0 => by obtain ⟨_, _, h2, _⟩ := h1 h0; cases h2))).out
          | some A => exact fin true ht e2 (.inr rfl) rfl h.2.out
        · rename_i he
          rw [he] at hx
          have e2 : a.eval x = .slice none 0 0 := by simpa [Reps] using hx
          exact fin false ht e2 (.inr rfl) rfl h
        · exact h.elim
      · exact h.elim
  · exact h.elim

theorem boolOf_spec {x : AV} {v : Value} {b : Bool} {own : Bool → Nat → Prop} (h : Reps w own γ x .o [v]) (hb : boolOf x = some b) : v = .bool b := by
  unfold boolOf at hb
  split at hb <;> first | (cases hb; simpa [Reps] using h) | cases hb
theorem binVC_sound {o : Oper} {d t : Nat} {op : BinOp} {x y : Operand} {t' : Nat} {K : St → Prop} {Q : Exit → Act → World → Prop} (hτ : TyOk P τ) (ho : o.op = .binOp op t x y t') (hd : o.dst = some d) (hdn : d < s.n) (hs : Sim E s a w γ)
    (h : binVC P τ s d t op x y K) : o.wp P a w (fun a' w' => ∃ s', K s' ∧ Den E s' a' w') Q := by
  unfold binVC at h
  split at h
  · exact nilVC_sound hτ ho hd hdn hs h
  · unfold boolVC at h
    split at h
    · rename_i b1 b2 e1 e2
      have h1 := boolOf_spec (ev_sound hs x).1 e1
      have h2 := boolOf_spec (ev_sound hs y).1 e2
      have fin : ∀ (b : Bool), (do eqGuard op t x y (.bool b1) (.bool b2); binOp op t (.bool b1) (.bool b2) : Sem Value).run P w = .ok (.bool b) w → K (s.put d (bif b then .tt else .ff)) → o.wp P a w (fun a' w' => ∃ s', K s' ∧ Den E s' a' w') Q := by
        intro b hr hK
        unfold Oper.wp
        simp only [execOp, ho, h1, h2, hr, Sem.run_bind, Result.andThen_ok, Sem.run_pure, Oper.upon]
        show ∃ s', K s' ∧ Den E s' (a.put o.dst (.bool _)) w
        rw [hd]
        exact ⟨_, hK, γ, hs.put hdn (by cases b <;> rfl) (fun M hM => by cases b <;> exact hM.elim)⟩
      split at h
      · obtain ⟨ht, ⟨hK⟩⟩ := h
        rw [force_eq] at hK
        refine fin (b1 == b2) (by simp [eqGuard, run_eql_bool w t b1 b2 ht]) ?_
        cases b1 <;> cases b2 <;> exact hK
      · obtain ⟨ht, ⟨hK⟩⟩ := h
        rw [force_eq] at hK
        refine fin (!(b1 == b2)) (by simp [eqGuard, run_neq_bool w t b1 b2 ht]) ?_
        cases b1 <;> cases b2 <;> exact hK
      · exact h.elim
    · exact h.elim

theorem opVC_sound (hτ : TyOk P τ) {o : Oper} {K : St → Prop} {Q : Exit → Act → World → Prop} (h : opVC P τ sf o s K) (hs : Sim E s a w γ) : o.wp P a w (fun a' w' => ∃ s', K s' ∧ Den E s' a' w') Q := by
  have mupd : ∀ {t : Nat} {m k x : Operand}, o.dst = none → execOp a.eval o = (do Instr.mapUpdate t (a.eval m) (a.eval k) (a.eval x); pure .skip) → mupVC τ s t m k x K → o.wp P a w (fun a' w' => ∃ s', K s' ∧ Den E s' a' w') Q := by
    intro t m k x hd he h
    unfold mupVC at h
    split at h
    · rename_i i hi
      split at h
      · rename_i kt et hm
        split at h
        · rename_i ki hki
          cases hb : decide (ki.ik = some .i64) with
          | false => rw [hb] at h; exact h.elim
          | true =>
            rw [hb] at h
            simp only [cond_true] at h
            split at h
            · rename_i p s' hr
              obtain ⟨w', h1, h2⟩ := mup_sound hs (hτ _ _ hi) hm (hτ _ _ hki) (of_decide_eq_true hb) (ev_sound hs m).1 (ev_sound hs m).2 (ev_sound hs k).1 (ev_sound hs x).1 hr
              unfold Oper.wp
              rw [he]
              simp only [Sem.run_bind, h1, Result.andThen_ok, Sem.run_pure, Oper.upon, hd, Act.put]
              exact ⟨s', h, γ, h2⟩
            · exact h.elim
        · exact h.elim
      · exact h.elim
    · exact h.elim
  unfold opVC at h
  cases hd : o.dst with
  | none =>
    rw [hd] at h
    simp only at h
    split at h
    · rename_i t x y ho
      split at h
      · rename_i i hi
        cases hz : Nat.blt 0 i.size with
        | false => rw [hz] at h; exact h.elim
        | true =>
          rw [hz] at h
          simp only [cond_true] at h
          have key : ∀ p s', stoA s i.size (s.ev x) (s.ev y) = .ok p s' → p → K s' → o.wp P a w (fun a' w' => ∃ s', K s' ∧ Den E s' a' w') Q := by
            intro p s' he hp hK
            obtain ⟨w', γ', h1, h2⟩ := store_sound hs (hτ _ _ hi) (ev_sound hs x).1 (ev_sound hs x).2 (ev_sound hs y).1 (ev_sound hs y).2 he hp (blt_pos hz)
            unfold Oper.wp execOp
            simp only [ho, Sem.run_bind, h1, Result.andThen_ok, Sem.run_pure, Oper.upon, hd, Act.put]
            exact ⟨s', hK, γ', h2⟩
          unfold stoVC at h
          split at h
          · split at h
            · rename_i N j heq _ p s' he
              exact key p s' he (sto_op (by rw [← heq]; exact he)) h
            · exact h.elim
          · split at h
            · rename_i p s' he
              exact key p s' he h.1 h.2.out
            · exact h.elim
      · exact h.elim
    · rename_i t m k x ho
      exact mupd hd (by simp only [execOp, ho]) h
    · rename_i t m k x ho
      exact mupd hd (by simp only [execOp, ho]) h
    · rename_i c ho
      split at h
      · rename_i g args hq
        obtain ⟨nw, ns, a0, σ0, r, σ, hF, hcb, hle, har, ⟨hK⟩⟩ := h
        simp only [Bool.and_eq_true] at hcb
        obtain ⟨c', f, caps, ho', hc, hf, hargs⟩ := q_call hq
        cases ho'
        exact callVC_sound ho hc hf hargs hs hF (callOk_of hcb.1 hle har) (fun v w' γ' h2 h3 h4 => ⟨_, forceB_iff hK, γ', by rw [hd]; exact h2⟩)
      · exact h.elim
    · exact h.elim
  | some d =>
    rw [hd] at h
    simp only at h
    cases hb : Nat.blt d s.n with
    | false => rw [hb] at h; exact h.elim
    | true =>
      rw [hb] at h
      simp only [cond_true] at h
      have hdn : d < s.n := blt_pos hb
      have hlow : low ≤ nm d := by unfold nm low; omega
      have quiet' : ∀ {x y : AV} {nb : Option Blk}, Yields (q τ (nm d) s o.op) x nb → (nb = none ∨ s.rblk (nm d) = none) → (∀ {w : World} {own : Bool → Nat → Prop} {γ : Nm → Value} {v : Value}, Reps w own γ x .o [v] → Reps w own γ y .o [v]) → (∀ M, y.has M → x.has M) → K ((s.addB (nm d) nb).put d y) → o.wp P a w (fun a' w' => ∃ s', K s' ∧ Den E s' a' w') Q := by
        intro x y nb hy hL hxy hm hK
        obtain ⟨v, w', γ', h1, h2, h3, h4⟩ := q_sound hτ hs hy (hL.imp id (fun h => ⟨h, hlow⟩))
        unfold Oper.wp
        rw [h1]
        show ∃ s', K s' ∧ Den E s' (a.put o.dst v) w'
        rw [hd]
        exact ⟨_, hK, γ', h2.put (by cases nb <;> exact hdn) (hxy h3) (fun M hM => h4 M (hm M hM))⟩
      have quiet : ∀ {x : AV} {nb : Option Blk}, Yields (q τ (nm d) s o.op) x nb → (nb = none ∨ s.rblk (nm d) = none) → K ((s.addB (nm d) nb).put d x.res) → o.wp P a w (fun a' w' => ∃ s', K s' ∧ Den E s' a' w') Q := fun hy hL hK =>
        quiet' hy hL (fun h => h.res) (fun M hM => has_res hM) hK
      split at h
      · rename_i x hq
        exact quiet (nb := none) (by rw [hq]; exact .val) (.inl rfl) (forceB_iff h)
      · rename_i p x hq
        obtain ⟨h1, ⟨h2⟩⟩ := h
        exact quiet (nb := none) (by rw [hq]; exact .cond h1) (.inl rfl) (forceB_iff h2)
      · rename_i k n hq
        rcases h with ⟨h1, ⟨h2⟩⟩ | h2
        · exact quiet' (nb := none) (by rw [hq]; exact .ari h1) (.inl rfl) (fun h => h) (fun M hM => hM) h2
        · exact quiet' (nb := none) (by rw [hq]; exact .arw) (.inl rfl) (fun h => h) (fun M hM => hM) h2.out
      · rename_i m n f hq
        obtain ⟨k, h1, h2, ⟨h3⟩⟩ := h
        exact quiet (nb := none) (by rw [hq]; exact .idx h1 h2) (.inl rfl) (forceB_iff h3)
      · rename_i x y z hq
        cases hx : x with
        | true => exact quiet (nb := none) (by rw [hq]; exact .splitT hx) (.inl rfl) (forceB_iff (h.1 hx).out)
        | false => exact quiet (nb := none) (by rw [hq]; exact .splitF hx) (.inl rfl) (forceB_iff (h.2 hx).out)
      · rename_i x y hq
        split at h
        · rename_i hbl
          rw [forceX_eq] at h
          exact quiet (nb := some x) (by rw [hq]; exact .new) (.inr hbl) (forceB_iff h)
        · exact h.elim
      · rename_i m c f y hq
        split at h
        · rename_i hbl
          obtain ⟨n, k, h1, h2, h3, h4, ⟨h5⟩⟩ := h
          exact quiet (nb := some (f n)) (by rw [hq]; exact .mk h1 h2 h3 h4) (.inr hbl) (forceB_iff h5)
        · exact h.elim
      · rename_i lo hi n f hq
        obtain ⟨l, h', h1, h2, h3, h4, ⟨h5⟩⟩ := h
        exact quiet (nb := none) (by rw [hq]; exact .slc h1 h2 h3 h4) (.inl rfl) (forceB_iff h5)
      · rename_i g args hq
        obtain ⟨nw, ns, a0, σ0, r, σ, hF, hcb, hle, har, ⟨hK⟩⟩ := h
        simp only [Bool.and_eq_true] at hcb
        obtain ⟨c, f, caps, ho, hc, hf, hargs⟩ := q_call hq
        refine callVC_sound ho hc hf hargs hs hF (callOk_of hcb.1 hle har) (fun v w' γ' h2 h3 h4 => ⟨_, forceB_iff hK, γ', ?_⟩)
        rw [hd]
        exact h2.put (by rw [← h2.size, hs.size]; exact hdn) h3.res (fun M hM => h4 M (has_res hM))
      · split at h
        · rename_i c ho
          unfold appVC at h
          split at h
          · rename_i x y t t' hcal hargs htys
            cases hbt : Nat.beq t' t with
            | false => rw [hbt] at h; exact h.elim
            | true =>
              rw [hbt] at h
              simp only [cond_true] at h
              obtain rfl := Nat.eq_of_beq_eq_true hbt
              split at h
              · rename_i i hi
                split at h
                · rename_i e he
                  cases hbb : (Nat.blt 0 i.elem && Nat.blt 0 e.size && Nat.ble e.bytes 256) with
                  | false => rw [hbb] at h; exact h.elim
                  | true =>
                    rw [hbb] at h
                    simp only [cond_true] at h
                    simp only [Bool.and_eq_true] at hbb
                    obtain ⟨⟨b1, b2⟩, b3⟩ := hbb
                    have hne : i.elem ≠ 0 := by have := blt_pos b1; omega
                    have hca : c.args = #[x, y] := by simpa using congrArg List.toArray hargs
                    have hct : c.argTypes = #[t', t'] := by simpa using congrArg List.toArray htys
                    split at h
                    · rename_i p s' hap
                      obtain ⟨hp, ⟨hK⟩⟩ := h
                      obtain ⟨v, w', γ', hr, hS⟩ := app_sound (P := P) hs (hτ _ _ hi) (hτ _ _ he) hne (blt_pos b2) (Nat.le_of_ble_eq_true b3) o.type hlow hdn hap hp
                      unfold Oper.wp execOp
                      simp only [ho, resolve, hcal, hca, hct, Sem.run_bind, Sem.run_pure, Result.andThen_ok, invoke, builtin, List.map_toArray, List.map_cons, List.map_nil, hr]
                      show ∃ s', K s' ∧ Den E s' (a.put o.dst v) w'
                      rw [hd]
                      exact ⟨_, hK, γ', hS⟩
                    · exact h.elim
                · exact h.elim
              · exact h.elim
          · exact h.elim
        · rename_i t x lo ho
          split at h
          · unfold trimVC at h
            split at h
            · rename_i i hi
              split at h
              · rename_i e he
                cases hbb : (Nat.blt 0 i.elem && Nat.beq e.size 1) with
                | false => rw [hbb] at h; exact h.elim
                | true =>
                  rw [hbb] at h
                  simp only [cond_true] at h
                  simp only [Bool.and_eq_true] at hbb
                  split at h
                  · rename_i p s' ht
                    obtain ⟨v, γ', hr, hS⟩ := trim_sound (P := P) hs (hτ _ _ hi) (hτ _ _ he) (by have := blt_pos hbb.1; omega) (Nat.eq_of_beq_eq_true hbb.2) hdn ht h.1
                    unfold Oper.wp execOp
                    simp only [ho, Option.map_some, Option.map_none, Sem.run_bind, hr, Result.andThen_ok, Sem.run_pure, Oper.upon]
                    rw [hd]
                    exact ⟨s', h.2.out, γ', hS⟩
                  · exact h.elim
              · exact h.elim
            · exact h.elim
          · exact h.elim
        · rename_i op t x t' ho
          split at h
          · exact binVC_sound hτ ho hd hdn hs h
          · exact h.elim
        · exact h.elim

theorem getD_some {t : Nat} {v : Value} (h : a.tmps.getD t undef = v) (hv : v ≠ undef) : a.tmps[t]? = some v := by
  rw [Array.getD_eq_getD_getElem?] at h
  cases hx : a.tmps[t]? with
  | none => rw [hx] at h; exact absurd h.symm hv
  | some x => rw [hx] at h; exact congrArg some h
theorem wanted_at {ops : Array Oper} {o : Oper} {j dj : Nat} {want : Bool} (hg : o.guard = some (j, want)) (hj : (ops[j]?).bind (·.dst) = some dj) {x : Bool} (hv : a.tmps.getD dj undef = .bool x) :
    Region.wanted o (yielded ops a.tmps) = (x == want) := by
  have h1 := getD_some hv (by intro h; cases h)
  simp only [Region.wanted, hg, yielded, hj, Option.bind_some, h1]
  cases x <;> cases want <;> rfl
theorem wanted_undef {ops : Array Oper} {o : Oper} {j dj : Nat} {want : Bool} (hg : o.guard = some (j, want)) (hj : (ops[j]?).bind (·.dst) = some dj) {x : Array Value} (hv : a.tmps.getD dj undef = .tuple x) :
    Region.wanted o (yielded ops a.tmps) = false := by
  simp only [Region.wanted, hg, yielded, hj, Option.bind_some]
  rw [Array.getD_eq_getD_getElem?] at hv
  cases hx : a.tmps[dj]? with
  | none => rfl
  | some y => rw [hx] at hv; have : y = .tuple x := hv
              subst this; rfl
theorem skipVC_sound {o : Oper} {K : St → Prop} (hk : skipVC o s K) (h : Sim E s a w γ) : ∃ s', K s' ∧ Sim E s' (a.put o.dst undef) w γ := by
  unfold skipVC at hk
  cases ho : o.dst with
  | none => rw [ho] at hk; exact ⟨s, hk, h⟩
  | some d =>
    rw [ho] at hk
    simp only at hk
    cases hb : Nat.blt d s.n with
    | false => rw [hb] at hk; exact hk.elim
    | true => rw [hb] at hk; exact ⟨_, hk, h.put (blt_pos hb) rfl (fun M hM => hM.elim)⟩

theorem opsVC_sound (hτ : TyOk P τ) (ops : Array Oper) {Q : Exit → Act → World → Prop} : ∀ (l : List Oper) (K : St → Prop) (s : St) (a : Act) (w : World) (γ : Nm → Value), opsVC P τ sf ops l K s → Sim E s a w γ →
    (∀ s' a' w', K s' → Den E s' a' w' → Q .normal a' w') → wpList P ops Q l a w
  | [], K, s, a, w, γ, h, hs, hQ => hQ s a w h ⟨γ, hs⟩
  | o :: rest, K, s, a, w, γ, h, hs, hQ => by
    have exec : ∀ {s : St}, Sim E s a w γ → opVC P τ sf o s (opsVC P τ sf ops rest K) → o.wp P a w (wpList P ops Q rest) Q := fun hs hv =>
      Oper.wp_mono (fun a' w' ⟨s', h1, γ', h2⟩ => opsVC_sound hτ ops rest K s' a' w' γ' h1 h2 hQ) (opVC_sound hτ hv hs)
    have skip : ∀ {s : St}, Sim E s a w γ → skipVC o s (opsVC P τ sf ops rest K) → wpList P ops Q rest (a.put o.dst undef) w := fun hs hv => by
      obtain ⟨s', h1, h2⟩ := skipVC_sound hv hs
      exact opsVC_sound hτ ops rest K s' _ w γ h1 h2 hQ
    unfold opsVC at h
    simp only [fK_eq] at h
    unfold wpList
    cases hg : o.guard with
    | none =>
      rw [hg] at h
      rw [if_pos (by simp [Region.wanted, hg])]
      exact .inl (exec hs h)
    | some p =>
      obtain ⟨j, want⟩ := p
      rw [hg] at h
      simp only at h
      split at h
      · exact h.elim
      · rename_i dj hj
        have hsl := hs.slots dj
        split at h
        · rename_i he
          rw [he] at hsl
          have hv : a.tmps.getD dj undef = .bool true := by simpa [Reps] using hsl
          rw [wanted_at hg hj hv]
          cases want with
          | true => exact .inl (exec hs h)
          | false => exact skip hs h
        · rename_i he
          rw [he] at hsl
          have hv : a.tmps.getD dj undef = .bool false := by simpa [Reps] using hsl
          rw [wanted_at hg hj hv]
          cases want with
          | true => exact skip hs h
          | false => exact .inl (exec hs h)
        · rename_i z he
          rw [he] at hsl
          have hv : a.tmps.getD dj undef = .tuple z := by simpa [Reps] using hsl
          rw [wanted_undef hg hj hv]
          exact skip hs h
        · exact h.elim
end
end Go.Proofs.Ytbncmiglhjfcdaa
