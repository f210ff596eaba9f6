/-
  Operations that write: what is said comes about.
-/
import Derived.Test.YtbncmiglhjfcdaaCp
namespace Go.Proofs.Ytbncmiglhjfcdaa
open Go.RowKit Go.MapKept
set_option linter.unusedVariables false

section
variable {P : Program} {E : Ent0} {w w' : World} {s : St} {act : Act} {γ : Nm → Value}

theorem nth_kill {Q : Nm → Bool} : ∀ {l : AV} {j : Nat}, (l.kill Q).nth j = (l.nth j).kill Q := by
  have one : ∀ {a : AV} {j : Nat}, (∀ x l, a ≠ .cons x l) → a ≠ .nil → (∀ x l, a.kill Q ≠ .cons x l) → a.kill Q ≠ .nil → (a.kill Q).nth j = (a.nth j).kill Q := by
    intro a j h1 h2 h3 h4
    cases j with
    | zero =>
      have e1 : (a.kill Q).nth 0 = a.kill Q := by generalize a.kill Q = b at h3 h4; cases b <;> first | rfl | exact absurd rfl (h3 _ _) | exact absurd rfl h4
      have e2 : a.nth 0 = a := by cases a <;> first | rfl | exact absurd rfl (h1 _ _) | exact absurd rfl h2
      rw [e1, e2]
    | succ j =>
      have e1 : (a.kill Q).nth (j + 1) = .top := by generalize a.kill Q = b at h3 h4; cases b <;> first | rfl | exact absurd rfl (h3 _ _)
      have e2 : a.nth (j + 1) = .top := by cases a <;> first | rfl | exact absurd rfl (h1 _ _)
      rw [e1, e2]; rfl
  intro l
  induction l with
  | cons a l iha ihl =>
    intro j
    cases j with
    | zero => rfl
    | succ j => exact ihl
  | nil => intro j; rfl
  | op N j0 => intro j; exact one (fun _ _ h => by cases h) (fun h => by cases h) (fun _ _ h => by unfold AV.kill at h; cases hq : Q N <;> (rw [hq] at h; cases h)) (fun h => by unfold AV.kill at h; cases hq : Q N <;> (rw [hq] at h; cases h))
  | om N => intro j; exact one (fun _ _ h => by cases h) (fun h => by cases h) (fun _ _ h => by unfold AV.kill at h; cases hq : Q N <;> (rw [hq] at h; cases h)) (fun h => by unfold AV.kill at h; cases hq : Q N <;> (rw [hq] at h; cases h))
  | os N => intro j; exact one (fun _ _ h => by cases h) (fun h => by cases h) (fun _ _ h => by unfold AV.kill at h; cases hq : Q N <;> (rw [hq] at h; cases h)) (fun h => by unfold AV.kill at h; cases hq : Q N <;> (rw [hq] at h; cases h))
  | oe N st k j0 => intro j; exact one (fun _ _ h => by cases h) (fun h => by cases h) (fun _ _ h => by unfold AV.kill at h; cases hq : Q N <;> (rw [hq] at h; cases h)) (fun h => by unfold AV.kill at h; cases hq : Q N <;> (rw [hq] at h; cases h))
  | _ => intro j; exact one (fun _ _ h => by cases h) (fun h => by cases h) (fun _ _ h => by cases h) (fun h => by cases h)
theorem len_kill {Q : Nm → Bool} : ∀ {l : AV}, (l.kill Q).len = l.len := by
  intro l
  induction l with
  | cons a l iha ihl => simp only [AV.kill, AV.len, ihl]
  | op N j => unfold AV.kill; cases Q N <;> rfl
  | om N => unfold AV.kill; cases Q N <;> rfl
  | os N => unfold AV.kill; cases Q N <;> rfl
  | oe N st k j => unfold AV.kill; cases Q N <;> rfl
  | _ => rfl
theorem box_sub {l : AV} {r : List (Nat × Nat)} {z : Blk} (hr : r ≠ []) (h : (Blk.box l).At r z) : False := by
  cases r with
  | nil => exact hr rfl
  | cons q r => obtain ⟨i, j⟩ := q; obtain ⟨e, c, y, he, _⟩ := h; cases he
theorem mp_sub {t : TypeId} {m : Mc} {r : List (Nat × Nat)} {z : Blk} (hr : r ≠ []) (h : (Blk.mp t m).At r z) : False := by
  cases r with
  | nil => exact hr rfl
  | cons q r => obtain ⟨i, j⟩ := q; obtain ⟨e, c, y, he, _⟩ := h; cases he
theorem ownCells_false {c : Ct} {k : Nat} : ∀ {n j : Nat}, ownCells c k j n = false → ∀ j', j ≤ j' → j' < j + n → (c.cell k j').sub = none
  | 0, j, _, j', h1, h2 => by omega
  | n + 1, j, h, j', h1, h2 => by
    unfold ownCells at h
    simp only [Bool.or_eq_false_iff] at h
    by_cases e : j' = j
    · subst e
      cases hs : (c.cell k j').sub with
      | none => rfl
      | some z => rw [hs] at h; cases h.1
    · exact ownCells_false h.2 j' (by omega) (by omega)
theorem kids_quiet (s : St) (R : Nat) : (∀ t M, ((s.kill (kids R)).slot t).has M → M.r = R → M.p = []) ∧ (∀ D z M, (s.kill (kids R)).at D z → z.has M → M.r = R → M.p = []) :=
  ⟨fun t M hM e => by rw [slot_kill] at hM; exact kids_not (has_kill hM).2 e, fun D z M hD hM e => by obtain ⟨y, _, rfl⟩ := of_kill.1 hD; exact kids_not (hasB_kill hM).2 e⟩

theorem set_nest {e : TypeId} {c c' : Ct} {k j : Nat} {m : AV} (h : c.set k j m = some c') (hn : (Blk.row e c).nest = true) : (Blk.row e c').nest = true := by
  cases c with
  | ints q xs =>
    cases m with
    | int q' n =>
      simp only [Ct.set] at h
      cases hd : decide (q' = q) with
      | false => rw [hd] at h; cases h
      | true => rw [hd] at h; cases h; rfl
    | _ => cases h
  | bools xs => cases hn
  | tab n st cell => cases h; rfl
theorem setN_rblk {N : Nm} {y : Blk} {R : Nat} (h : R ≠ N.r) : (s.setN N y).rblk R = s.rblk R := by
  unfold St.setN
  split
  · rw [St.rblk_setB, if_neg (Ne.symm h)]
  · rfl
theorem kid_nest {N : Nm} {y : Blk} (hN : s.at N y) (hp : N.p ≠ []) : y.nest = true := by
  obtain ⟨x0, g1, g2⟩ := hN
  rcases List.eq_nil_or_concat N.p with h6 | ⟨l', q, h6⟩
  · exact absurd h6 hp
  · rw [h6, List.concat_eq_append] at g2
    obtain ⟨z, g3, g4⟩ := at_append.1 g2
    obtain ⟨qi, qj⟩ := q
    obtain ⟨e4, c4, y4, g5, g6, g7, g8, g9⟩ := g4
    cases g9
    exact nest_of_sub g8
/-- A store into a row's element. -/
theorem store_row (h : Sim E s act w γ) {t : Nat} {i : TyI} (hi : tyChk P t i = true) {N : Nm} {e : TypeId} {c c' : Ct} (hN : s.at N (.row e c)) {k j : Nat} {m : AV} {vx : Value} (hc : Reps w (E.ow (s.own γ)) γ m .o vx.cells.toList) (hc1 : ∀ u ∈ vx.cells.toList, u.oneCell' = true) (hlm : s.live m)
    (hset : c.set k j m = some c') (hk : k < c.len) (hj : j + i.size ≤ c.st) (hml : m.len = i.size) (h0 : 0 < i.size)
    (hown : (∀ j', j ≤ j' → j' < j + i.size → (c.cell k j').sub = none) ∨ ((∀ t M, (s.slot t).has M → M.r = N.r → M.p = []) ∧ (∀ D z M, s.at D z → z.has M → M.r = N.r → M.p = []) ∧ ∀ M, m.has M → M.r = N.r → M.p = [])) :
    ∃ w', (Instr.storeAt t (ptrAt (γ N) (k * c.st + j)) vx).run P w = .ok () w' ∧ Sim E (s.setN N (.row e c')) act w' γ ∧ SetOk c c' k j m := by
  have hsz : vx.cells.size = i.size := by rw [← hml, ← hc.len]; simp
  have hS := set_spec hset hk (by omega) (by omega)
  obtain ⟨s1, s2, s3, s4, s5⟩ := hS
  have msub : ∀ i', i' < m.len → (m.nth i').sub = none := fun i' hi' => by
    obtain ⟨u, _, h5⟩ := hc.nth hi'
    exact sub_cell_none h5
  rcases h.blks N _ hN with ⟨h0', _⟩ | ⟨bk, o, cap, us, e1, hpos, h1, h2, h3, h4⟩
  · omega
  · have hbk : blkOf (γ N) = some bk := by rw [e1, blkOf_slice hpos]
    have hp' : ptrAt (γ N) (k * c.st + j) = .pointer (some ⟨bk, o + (k * c.st + j), none⟩) := by rw [e1]; rfl
    have hkc : k * c.st + c.st ≤ cap * c.st := by
      have := Nat.mul_le_mul_right c.st (show k + 1 ≤ cap by omega)
      rwa [Nat.succ_mul] at this
    have hr := run_storeAt (P := P) hi (o := o + (k * c.st + j)) h2 hsz (by omega) hc1
    have hlen : (us.take (o + (k * c.st + j)) ++ vx.cells.toList ++ us.drop (o + (k * c.st + j) + i.size)).length = us.length := by
      simp [hsz]; omega
    have hnestN : N.p ≠ [] → (Blk.row e c').nest = true := fun hp => set_nest hset (kid_nest hN hp)
    have hok : ∀ {own' : Bool → Nat → Prop}, Keeps w (w.setRow bk (us.take (o + (k * c.st + j)) ++ vx.cells.toList ++ us.drop (o + (k * c.st + j) + i.size)).toArray) (E.ow (s.own γ)) own' →
        BlkOk (w.setRow bk (us.take (o + (k * c.st + j)) ++ vx.cells.toList ++ us.drop (o + (k * c.st + j) + i.size)).toArray) own' γ N (.row e c') := by
      intro own' hkp
      refine .inr ⟨bk, o, cap, _, by rw [s1]; exact e1, hpos, by rw [s1]; exact h1, setRow_heap w bk _ _ e _ h2, by rw [s2, hlen]; exact h3, fun k' j' hk' hj' => ?_⟩
      rw [s1] at hk'
      rw [s2] at hj' ⊢
      by_cases hin : k' = k ∧ j ≤ j' ∧ j' < j + i.size
      · obtain ⟨rfl, hj1, hj2⟩ := hin
        obtain ⟨u, h5, h6⟩ := hc.nth (j := j' - j) (by omega)
        refine ⟨u, ?_, hc1 u (List.mem_of_getElem? h5), ?_⟩
        · rw [List.getElem?_append_left (by simp [hsz]; omega), List.getElem?_append_right (by simp; omega)]
          rw [← h5]
          congr 1
          simp; omega
        · have := (s4 (j' - j) (by omega)).2.2 _ _ _ _ _ (h6.keep hkp)
          rw [show j + (j' - j) = j' by omega] at this
          exact .of this
      · obtain ⟨u, h5, h5o, h6⟩ := h4 k' j' hk' hj'
        have hout : o + (k' * c.st + j') < o + (k * c.st + j) ∨ o + (k * c.st + j) + i.size ≤ o + (k' * c.st + j') := by
          rcases Nat.lt_trichotomy k' k with hlt | heq | hgt
          · have := Nat.mul_le_mul_right c.st (show k' + 1 ≤ k by omega)
            rw [Nat.succ_mul] at this
            left; omega
          · subst heq
            by_cases hjj : j' < j
            · left; omega
            · right; have : ¬ j' < j + i.size := fun h => hin ⟨rfl, by omega, h⟩
              omega
          · have := Nat.mul_le_mul_right c.st (show k + 1 ≤ k' by omega)
            rw [Nat.succ_mul] at this
            right; omega
        refine ⟨u, ?_, h5o, ?_⟩
        · rcases hout with hlt | hge
          · rw [List.getElem?_append_left (by simp; omega), List.getElem?_append_left (by simp; omega), List.getElem?_take, if_pos hlt]
            exact h5
          · rw [List.getElem?_append_right (by simp [hsz]; omega), List.getElem?_drop, ← h5]
            congr 1
            simp [hsz]; omega
        · rw [s3 k' j' hk' hj' (by rw [hml]; exact hin)]
          exact h6.keep hkp (fun _ _ => rfl) (fun _ => rfl)
    have hsub1 : ∀ r z, r ≠ [] → (Blk.row e c').At r z → (Blk.row e c).At r z := by
      intro r z hr hz
      cases r with
      | nil => exact absurd rfl hr
      | cons q r =>
        obtain ⟨i', j'⟩ := q
        obtain ⟨e2, c2, y, he, g1, g2, g3, g4⟩ := hz
        cases he
        rw [s1] at g1
        rw [s2] at g2
        by_cases hin : i' = k ∧ j ≤ j' ∧ j' < j + m.len
        · obtain ⟨rfl, hj1, hj2⟩ := hin
          have := (s4 (j' - j) (by omega)).1 (msub _ (by omega))
          rw [show j + (j' - j) = j' by omega, g3] at this
          cases this
        · rw [s3 i' j' g1 g2 hin] at g3
          exact ⟨_, _, y, rfl, g1, g2, g3, g4⟩
    refine ⟨w.setRow bk (us.take (o + (k * c.st + j)) ++ vx.cells.toList ++ us.drop (o + (k * c.st + j) + i.size)).toArray, by rw [hp']; exact hr, ?_, ⟨s1, s2, s3, s4, s5⟩⟩
    have hx : ∀ M, (Blk.row e c').has M → s.lv M ∧ (m.has M ∨ (Blk.row e c).has M) := fun M ⟨k', j', hk', hj', hM⟩ => by
      rw [s1] at hk'
      rw [s2] at hj'
      rcases s5 k' j' M hM with hM | hM
      · exact ⟨hlm M hM, .inl hM⟩
      · exact ⟨h.wf.blk N _ M hN ⟨k', j', hk', hj', hM⟩, .inr ⟨k', j', hk', hj', hM⟩⟩
    rcases hown with hno | ⟨q1, q2, q3⟩
    · refine h.write hN hbk hnestN rfl rfl rfl (setRow_size _ _ _) (fun k hk => setRow_other w bk k _ hk) (fun M hM => (hx M hM).1) hsub1 (fun r z hr hz => ?_) hok
      cases r with
      | nil => exact absurd rfl hr
      | cons q r =>
        obtain ⟨i', j'⟩ := q
        obtain ⟨e2, c2, y, he, g1, g2, g3, g4⟩ := hz
        cases he
        by_cases hin : i' = k ∧ j ≤ j' ∧ j' < j + m.len
        · obtain ⟨rfl, hj1, hj2⟩ := hin
          rw [hno j' hj1 (by omega)] at g3; cases g3
        · exact ⟨_, c', y, rfl, by rw [s1]; exact g1, by rw [s2]; exact g2, by rw [s3 i' j' g1 g2 hin]; exact g3, g4⟩
    · exact h.writeD hN hbk hnestN rfl rfl rfl (setRow_size _ _ _) (fun k hk => setRow_other w bk k _ hk) (fun M hM => ⟨(hx M hM).1, fun e2 => (hx M hM).2.elim (fun h5 => q3 M h5 e2) (fun h5 => q2 N _ M hN h5 e2)⟩) hsub1 q1 q2 hok

theorem store_sound (h : Sim E s act w γ) {t : Nat} {i : TyI} (hi : tyChk P t i = true) {a x : AV} {va vx : Value} (ha : Reps w (E.ow (s.own γ)) γ a .o [va]) (hla : s.live a) (hx : Reps w (E.ow (s.own γ)) γ x .o [vx]) (hlx : s.live x) {p : Prop} {s' : St}
    (hy : stoA s i.size a x = .ok p s') (hp : p) (h0 : 0 < i.size) : ∃ w' γ', (Instr.storeAt t va vx).run P w = .ok () w' ∧ Sim E s' act w' γ' := by
  unfold stoA at hy
  cases a with
  | op N j =>
    obtain ⟨_, e, _⟩ := ha
    cases e
    simp only at hy
    cases hNb : s.blk N with
    | none => rw [hNb] at hy; cases hy
    | some y =>
      rw [hNb] at hy
      have hN := St.lv_at (hla N rfl) hNb
      cases y with
      | row e c => cases hy
      | mp t m => cases hy
      | box l =>
        simp only at hy
        cases hb : (x.flat && Nat.beq x.cells.len i.size && Nat.ble (j + i.size) l.len) with
        | false => rw [hb] at hy; cases hy
        | true =>
          rw [hb] at hy
          cases hy
          simp only [Bool.and_eq_true] at hb
          obtain ⟨⟨hf, hz⟩, hle⟩ := hb
          have hz' := Nat.eq_of_beq_eq_true hz
          have hle' := Nat.le_of_ble_eq_true hle
          obtain ⟨hc, hc1⟩ := hx.cells hf (live_one h hlx)
          obtain ⟨bk, us, ty, e, h1, ho, h2⟩ := h.blks N _ hN
          have hul := h2.len
          have hsz : vx.cells.size = i.size := by rw [← hz', ← hc.len]; simp
          have hbk : blkOf (γ N) = some bk := by rw [e]; rfl
          have hp' : ptrAt (γ N) j = .pointer (some ⟨bk, 0 + j, none⟩) := by rw [e]; rfl
          have hr := run_storeAt (P := P) hi (o := 0 + j) h1 hsz (by omega) hc1
          simp only [Nat.zero_add] at hr hp'
          have hnp : N.p ≠ [] → (Blk.box (l.splice j x.cells)).nest = true := fun hp => by cases kid_nest hN hp
          refine ⟨w.setRow bk (us.take j ++ vx.cells.toList ++ us.drop (j + i.size)).toArray, γ, by rw [hp']; exact hr, h.write hN hbk hnp rfl rfl rfl (setRow_size _ _ _) (fun k hk => setRow_other w bk k _ hk) (fun M hM => ?_) (fun r z hr hz => (box_sub hr hz).elim) (fun r z hr hz => (box_sub hr hz).elim) (fun hk => ?_)⟩
          · rcases has_splice hM with hM | hM
            · exact h.wf.blk N _ M hN hM
            · exact hlx M (has_cells hM)
          · refine ⟨bk, _, ty, e, setRow_heap w bk _ _ ty _ h1, fun u hu => ?_, ?_⟩
            · rcases List.mem_append.1 hu with hu | hu
              · rcases List.mem_append.1 hu with hu | hu
                · exact ho u (List.mem_of_mem_take hu)
                · exact hc1 u hu
              · exact ho u (List.mem_of_mem_drop hu)
            · have := (Reps.splice j h2 hc).keep hk
              simpa [hsz] using this
  | oe N st k j =>
    obtain ⟨_, e, _⟩ := ha
    cases e
    simp only at hy
    cases hNb : s.blk N with
    | none => rw [hNb] at hy; cases hy
    | some y =>
      rw [hNb] at hy
      have hN := St.lv_at (hla N rfl) hNb
      cases y with
      | box l => cases hy
      | mp t m => cases hy
      | row e c =>
        simp only at hy
        cases hb : (x.flat && Nat.beq x.cells.len i.size && Nat.ble (j + i.size) st && Nat.beq c.st st && mvOk (mvOf s N j x.cells)) with
        | false => rw [hb] at hy; cases hy
        | true =>
          rw [hb] at hy
          simp only [cond_true] at hy
          simp only [Bool.and_eq_true] at hb
          obtain ⟨⟨⟨⟨hf, hz⟩, hle⟩, hst⟩, hmv⟩ := hb
          have hz' := Nat.eq_of_beq_eq_true hz
          have hle' := Nat.le_of_ble_eq_true hle
          obtain rfl := Nat.eq_of_beq_eq_true hst
          obtain ⟨hc, hc1⟩ := hx.cells hf (live_one h hlx)
          cases how : ownCells c k j i.size with
          | false =>
            rw [how] at hy
            simp only [cond_false] at hy
            cases hset : c.set k j x.cells with
            | none => rw [hset] at hy; cases hy
            | some c' =>
              rw [hset] at hy
              cases hy
              obtain ⟨w', h1, h2, s1, s2, s3, s4, s5⟩ := store_row (P := P) h hi hN hc hc1 (fun M hM => hlx M (has_cells hM)) hset hp hle' hz' h0 (.inl (ownCells_false how))
              have hN' : (s.setN N (.row e c')).at N (.row e c') := setN_at hN (fun hnp => set_nest hset (kid_nest hN hnp))
              obtain ⟨γ', h3⟩ := h2.mvs (mvOf s N j x.cells) hN' (by rw [s1]; exact hp) hmv (fun q hq => by
                obtain ⟨g1, g2, g3, g4, g5, y, g6, g7⟩ := mvOf_spec hq
                refine ⟨by rw [s2]; omega, ?_, g4, y, by rw [setN_rblk g4]; exact g6, g7⟩
                have := (s4 (q.1 - j) (by omega)).2.1 _ g3
                rwa [show j + (q.1 - j) = q.1 by omega] at this)
              exact ⟨w', γ', h1, h3⟩
          | true =>
            rw [how] at hy
            simp only [cond_true] at hy
            cases hset : (c.kill (kids N.r)).set k j (x.cells.kill (kids N.r)) with
            | none => rw [hset] at hy; cases hy
            | some c' =>
              rw [hset] at hy
              cases hy
              have hk := h.kill (kids N.r)
              have hN1 : (s.kill (kids N.r)).at N (.row e (c.kill (kids N.r))) := of_kill.2 ⟨_, hN, rfl⟩
              obtain ⟨q1, q2⟩ := kids_quiet s N.r
              have hc2 : Reps w (E.ow ((s.kill (kids N.r)).own γ)) γ (x.cells.kill (kids N.r)) .o vx.cells.toList := by rw [own_kill]; exact hc.kill
              obtain ⟨w', h1, h2, s1, s2, s3, s4, s5⟩ := store_row (P := P) hk hi hN1 (k := k) (j := j) hc2 hc1 (fun M hM => lv_kill.2 (hlx M (has_cells (has_kill hM).1))) hset (by rw [Ct.kill_len]; exact hp) (by rw [Ct.kill_st]; exact hle') (by rw [len_kill]; exact hz') h0
                (.inr ⟨q1, q2, fun M hM e1 => kids_not (has_kill hM).2 e1⟩)
              rw [Ct.kill_st] at h1
              have hN' : ((s.kill (kids N.r)).setN N (.row e c')).at N (.row e c') := setN_at hN1 (fun hnp => set_nest hset (kid_nest hN1 hnp))
              obtain ⟨γ', h3⟩ := h2.mvs (mvOf s N j x.cells) hN' (by rw [s1, Ct.kill_len]; exact hp) hmv (fun q hq => by
                obtain ⟨g1, g2, g3, g4, g5, y, g6, g7⟩ := mvOf_spec hq
                refine ⟨by rw [s2, Ct.kill_st]; omega, ?_, g4, y.kill (kids N.r), by rw [setN_rblk g4, rblk_kill, g6]; rfl, by rw [nest_kill]; exact g7⟩
                have := (s4 (q.1 - j) (by rw [len_kill]; omega)).2.1 (rt q.2) (by rw [nth_kill, g3]; simp [AV.kill, kids])
                rwa [show j + (q.1 - j) = q.1 by omega] at this)
              exact ⟨w', γ', h1, h3⟩
  | _ => cases hy
end
end Go.Proofs.Ytbncmiglhjfcdaa
