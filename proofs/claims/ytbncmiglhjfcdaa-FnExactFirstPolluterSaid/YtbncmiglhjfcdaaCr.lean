/-
  Operations that write: map entries, a slice's beginning left out, append.
-/
import Derived.Test.YtbncmiglhjfcdaaCq
namespace Go.Proofs.Ytbncmiglhjfcdaa
open Go.RowKit Go.MapKept
set_option linter.unusedVariables false

section
variable {P : Program} {E : Ent0} {w w' : World} {s : St} {act : Act} {γ : Nm → Value}

theorem run_mup {t k e r : Nat} {es : Array MapEntry} {clock : Nat} {x : Int} {v : Value} (ht : P.underlying t = some (.map k e)) (hk : P.underlying k = some (.int .i64)) (hb : w.heap[r]? = some (.map es clock))
    {α : Type} (f : α → Value) {l : List (Int × α)} (hl : es.toList.map (fun e => (e.key, e.val)) = l.map (fun p => (Value.int .i64 p.1, f p.2))) {a : α} (hv : v = f a) :
    ∃ es' clock', (Instr.mapUpdate t (.map (some r)) (.int .i64 x) v).run P w = .ok () { w with heap := w.heap.setIfInBounds r (.map es' clock') } ∧ es'.toList.map (fun e => (e.key, e.val)) = (mset l x a).map (fun p => (Value.int .i64 p.1, f p.2)) := by
  have h1 := Go.MapKept.run_checkKey (P := P) (w := w) (k := .int .i64 x) hk rfl false 9999
  rcases find_map f x es.toList l 0 hl with ⟨_, g2, g3⟩ | ⟨j, e', a', _, g2, g4, g5, g3⟩
  · refine ⟨es.push { key := .int .i64 x, val := v, born := clock }, clock + 1, ?_, ?_⟩
    · simp [Instr.mapUpdate, run_underlying ht, Go.MapKept.run_getObj_map hb, h1, Go.MapKept.run_findKey hk g2, Go.MapKept.run_setObj_map _ hb]
    · rw [g3 a]; simp [hl, hv]
  · have hj : es[j]? = some e' := by simpa using g4
    have h2 := Go.MapKept.run_keyThatStays (P := P) (w := w) (d := .int .i64) (k := .int .i64 x) rfl
    refine ⟨es.modify j fun e => { e with key := .int .i64 x, val := v }, clock, ?_, ?_⟩
    · simp [Instr.mapUpdate, run_underlying ht, Go.MapKept.run_getObj_map hb, h1, Go.MapKept.run_findKey hk g2, hj, g5, h2, Go.MapKept.run_setObj_map _ hb]
    · rw [g3 a, List.map_set, ← hl]
      apply List.ext_getElem?
      intro m
      rw [List.getElem?_set]
      by_cases hm : j = m
      · subst hm
        have hlt : j < es.size := (Array.getElem?_eq_some_iff.1 hj).1
        simp [hlt, hv]
      · simp [hm]

theorem mup_sound (h : Sim E s act w γ) {t k e : Nat} {ti ki : TyI} (ht : tyChk P t ti = true) (hm : ti.mp = some (k, e)) (hk : tyChk P k ki = true) (hki : ki.ik = some .i64) {a x y : AV} {va vx vy : Value} (ha : Reps w (E.ow (s.own γ)) γ a .o [va]) (hla : s.live a) (hx : Reps w (E.ow (s.own γ)) γ x .o [vx])
    (hy : Reps w (E.ow (s.own γ)) γ y .o [vy]) {p : Prop} {s' : St} (hr : mupA s t a x y = .ok p s') : ∃ w', (Instr.mapUpdate t va vx vy).run P w = .ok () w' ∧ Sim E s' act w' γ := by
  unfold mupA at hr
  split at hr
  · rename_i N n
    obtain ⟨_, e1⟩ := ha
    cases e1
    cases hx
    split at hr
    · rename_i t' m hNb
      have hN := St.lv_at (hla N rfl) hNb
      obtain ⟨r, es, clock, h1, h2, h3⟩ := h.blks _ _ hN
      cases hb : Nat.beq t' t with
      | false => rw [hb] at hr; cases hr
      | true =>
        rw [hb] at hr
        simp only [cond_true] at hr
        obtain rfl := Nat.eq_of_beq_eq_true hb
        have hu := tyChk_mp ht hm
        have huk := tyChk_ik hk hki
        have hbk : blkOf (γ N) = some r := by rw [h1]; rfl
        have fin : ∀ (es' : Array MapEntry) (clock' : Nat) (m' : Mc), es'.toList.map (fun e => (e.key, e.val)) = m'.entries → Sim E (s.setN N (.mp t' m')) act { w with heap := w.heap.setIfInBounds r (.map es' clock') } γ := by
          intro es' clock' m' he
          obtain ⟨g1, g2⟩ := Go.MapKept.heap_set (o' := .map es' clock') h2
          refine h.write hN hbk (fun hp => by cases kid_nest hN hp) rfl rfl rfl (by simp) g2 (fun M hM => hM.elim) (fun r z hr hz => (mp_sub hr hz).elim) (fun r z hr hz => (mp_sub hr hz).elim) (fun _ => ?_)
          exact ⟨r, es', clock', h1, g1, he⟩
        split at hr
        · rename_i q l q' v
          cases hd : decide (q' = q) with
          | false => rw [hd] at hr; cases hr
          | true =>
            rw [hd] at hr
            cases hr
            obtain rfl := of_decide_eq_true hd
            cases hy
            obtain ⟨es', clock', g1, g2⟩ := run_mup (x := n) hu huk h2 (Value.int q') (l := l) (by rw [h3]; rfl) (a := v) rfl
            exact ⟨_, by rw [h1]; exact g1, fin es' clock' _ g2⟩
        · rename_i l v
          cases hr
          cases hy
          obtain ⟨es', clock', g1, g2⟩ := run_mup (x := n) hu huk h2 Value.bool (l := l) (by rw [h3]; rfl) (a := v) rfl
          exact ⟨_, by rw [h1]; exact g1, fin es' clock' _ g2⟩
        · rename_i l
          cases hr
          cases hy
          obtain ⟨es', clock', g1, g2⟩ := run_mup (x := n) hu huk h2 Value.bool (l := l) (by rw [h3]; rfl) (a := true) rfl
          exact ⟨_, by rw [h1]; exact g1, fin es' clock' _ g2⟩
        · rename_i l
          cases hr
          cases hy
          obtain ⟨es', clock', g1, g2⟩ := run_mup (x := n) hu huk h2 Value.bool (l := l) (by rw [h3]; rfl) (a := false) rfl
          exact ⟨_, by rw [h1]; exact g1, fin es' clock' _ g2⟩
        · cases hr
    · cases hr
  · cases hr

theorem lv_setB {L : Nat} {x : Blk} : (s.setB L (some x)).lv (rt L) := ⟨x, at_root.2 (by simp [St.rblk_setB])⟩
theorem trim_sound (h : Sim E s act w γ) {t : Nat} {i e : TyI} (hi : tyChk P t i = true) (he : tyChk P i.elem e = true) (hne : i.elem ≠ 0) (hsz : e.size = 1) {d : Nat} (hd : d < s.n) {x lo : Operand} {p : Prop} {s' : St} (hy : trimA s i.elem d (s.ev x) (s.ev lo) = .ok p s') (hp : p) :
    ∃ v γ', (Instr.sliceAt t (act.eval x) (some (act.eval lo)) none none).run P w = .ok v w ∧ Sim E s' (act.put (some d) v) w γ' := by
  have hu := tyChk_elem hi hne
  obtain ⟨inf, z, i1, i2, i3, i4, i5⟩ := tyChk_info he
  have hx := ev_sound h x
  have hlo := (ev_sound h lo).1
  unfold trimA at hy
  split at hy
  · rename_i N q m ex elo
    rw [ex] at hx
    rw [elo] at hlo
    obtain ⟨⟨_, ev⟩, hlx⟩ := hx
    have ev' : act.eval x = γ N := by simpa using ev
    have evl : act.eval lo = .int q m := by simpa [Reps] using hlo
    split at hy
    · rename_i e' k xs hNp hNb
      cases hb : (Nat.beq e' i.elem && Nat.ble low N.r) with
      | false => rw [hb] at hy; cases hy
      | true =>
        rw [hb] at hy
        cases hy
        simp only [Bool.and_eq_true] at hb
        have e1 := Nat.eq_of_beq_eq_true hb.1
        have hlow := Nat.le_of_ble_eq_true hb.2
        have hN := St.lv_at (hlx N rfl) hNb
        have eN : N = rt N.r := by obtain ⟨r, q⟩ := N; simp only at hNp; rw [hNp]
        obtain ⟨m0, rfl⟩ : ∃ m0 : Nat, m = (m0 : Int) := ⟨m.toNat, by omega⟩
        have hle : m0 ≤ xs.length := by have := hp.2; omega
        rw [Int.toNat_natCast]
        have key : ∀ (A : Option Addr) (cap : Nat), γ N = .slice A xs.length cap → xs.length ≤ cap → (Instr.sliceAt t (act.eval x) (some (act.eval lo)) none none).run P w = .ok (.slice (if cap = m0 then A else A.map (·.add m0)) (xs.length - m0) (cap - m0)) w := by
          intro A cap hA hcap
          have hb := run_bounds (P := P) (w := w) (len := xs.length) (cap := cap) (l := m0) (h := xs.length) (lo := some (m0 : Int)) (hi := none) (vl := some (.int q m0)) (vh := none) (.inr ⟨q, rfl⟩) ⟨q, rfl⟩ rfl rfl hle (Nat.le_refl _) hcap
          rw [ev', evl, hA]
          simp [Instr.sliceAt, Instr.slice, run_underlying hu, hb, sizeOf, typeInfo, i1, i2, hsz]
        have hk := h.kill (atR N.r)
        have hNk : (s.kill (atR N.r)).at N (.row e' (.ints k xs)) := of_kill.2 ⟨_, hN, rfl⟩
        obtain ⟨A, cap, hg, hcap, hcase⟩ : ∃ A cap, γ N = .slice A xs.length cap ∧ xs.length ≤ cap ∧ ((cap = 0) ∨ (0 < cap ∧ ∃ bk o us, A = some ⟨bk, o, none⟩ ∧ w.heap[bk]? = some (.cells (List.toArray us) e' (0, 0)) ∧ o + cap ≤ us.length ∧ ∀ k', k' < xs.length → ∃ u, us[o + k']? = some u ∧ u.oneCell' = true ∧ u = .int k (xs.getD k' 0))) := by
          rcases h.blks N _ hN with ⟨h0, A, e2⟩ | ⟨bk, o, cap, us, e2, hpos, hc, h2, h3, h4⟩
          · have h0' : xs.length = 0 := h0
            exact ⟨A, 0, by rw [e2, h0'], by omega, .inl rfl⟩
          · refine ⟨_, cap, e2, hc, .inr ⟨hpos, bk, o, us, rfl, h2, by simpa [Ct.st] using h3, fun k' hk' => ?_⟩⟩
            obtain ⟨u, h5, h6, h7⟩ := h4 k' 0 hk' (by exact Nat.one_pos)
            exact ⟨u, by simpa [Ct.st] using h5, h6, by simpa [Reps, Ct.cell, ci] using h7.rep rfl⟩
        have hr := key A cap hg hcap
        have hlen : (xs.drop m0).length = xs.length - m0 := by simp
        -- the new header
        have hS : Sim E ((s.kill (atR N.r)).setB N.r (some (.row i.elem (.ints k (xs.drop m0))))) act w (upd γ (rt N.r) (.slice (if cap = m0 then A else A.map (·.add m0)) (xs.length - m0) (cap - m0))) := by
          refine hk.replace hlow (quiet_kill s N.r) rfl rfl rfl (Nat.le_refl _) (fun _ _ _ => rfl) (fun bk hbk => ?_) (fun M ⟨k', j', _, _, hM⟩ => hM.elim) (fun p z hp hz => ?_) (fun hkp => ?_)
          · right
            refine ⟨⟨_, by rw [← eN]; exact hNk⟩, ?_⟩
            rw [← eN, hg]
            rcases hcase with h0 | ⟨hpos, bk', o, us, rfl, _⟩
            · rw [h0] at hbk
              rw [show (0 : Nat) - m0 = 0 by omega, blkOf_slice0] at hbk; cases hbk
            · by_cases hc : cap = m0
              · rw [hc, Nat.sub_self, blkOf_slice0] at hbk; cases hbk
              · rw [if_neg hc, Option.map_some, blkOf_slice (by omega)] at hbk
                rw [blkOf_slice hpos]
                rw [← hbk]
                simp [Addr.add]; split <;> rfl
          · cases p with
            | nil => exact absurd rfl hp
            | cons q p => obtain ⟨i', j'⟩ := q; obtain ⟨e3, c3, y3, he3, _, _, h6, _⟩ := hz; cases he3; cases h6
          · rcases hcase with h0 | ⟨hpos, bk', o, us, rfl, h2, h3, h4⟩
            · refine .inl ⟨by show (xs.drop m0).length = 0; rw [hlen]; omega, _, by rw [upd_at, show cap - m0 = 0 by omega, show xs.length - m0 = 0 by omega]⟩
            · by_cases hc : cap = m0
              · refine .inl ⟨by show (xs.drop m0).length = 0; rw [hlen]; omega, _, by rw [upd_at, show cap - m0 = 0 by omega, show xs.length - m0 = 0 by omega]⟩
              · refine .inr ⟨bk', o + m0, cap - m0, us, by rw [upd_at, if_neg hc, Option.map_some, add_at]; show _ = Value.slice _ (xs.drop m0).length _; rw [hlen], by omega, by show (xs.drop m0).length ≤ _; rw [hlen]; omega, by rw [← e1]; exact h2, by show o + m0 + (cap - m0) * 1 ≤ _; omega, fun k' j' hk' hj' => ?_⟩
                have hj0 : j' < 1 := hj'
                obtain rfl : j' = 0 := by omega
                have hk1 : k' < (xs.drop m0).length := hk'
                rw [hlen] at hk1
                obtain ⟨u, h5, h6, h7⟩ := h4 (m0 + k') (by omega)
                refine ⟨u, by show us[o + m0 + (k' * 1 + 0)]? = _; rw [← h5]; congr 1; omega, h6, .of ?_⟩
                show [u] = [.int k ((xs.drop m0).getD k' 0)]
                rw [h7]; simp
        exact ⟨_, _, hr, hS.put (by exact hd) ⟨rfl, by rw [upd_at]⟩ (fun M hM => (show rt N.r = M from hM) ▸ lv_setB)⟩
    · cases hy
  · cases hy
end
end Go.Proofs.Ytbncmiglhjfcdaa
