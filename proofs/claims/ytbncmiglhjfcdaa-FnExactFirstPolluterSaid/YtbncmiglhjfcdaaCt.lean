/-
  append: all together.
-/
import Derived.Test.YtbncmiglhjfcdaaCs
namespace Go.Proofs.Ytbncmiglhjfcdaa
open Go.RowKit
set_option linter.unusedVariables false

section
variable {P : Program} {E : Ent0} {w w' : World} {s : St} {act : Act} {γ : Nm → Value}

theorem append_new (h : Sim E s act w γ) {t : Nat} {i e : TyI} (hi : tyChk P t i = true) (he : tyChk P i.elem e = true) (hne : i.elem ≠ 0) (hsz : 0 < e.size) (hby : e.bytes ≤ 256) (ty : TypeId) {L : Nat} (hlow : low ≤ L) {c2 : Ct} {y : AV} {vy : Value} {A : Option Addr}
    (hL : s.rblk L = none) (hy : Reps w (E.ow (s.own γ)) γ y .o [vy]) (hly : s.live y) (hc2 : srcA s y = some c2) (hst2 : c2.st = e.size) (hlen : c2.len ≤ 1073741824) :
    ∃ v w' γ', (Builtin.append_ #[t, t] ty #[.slice A 0 0, vy]).run P w = .ok v w' ∧ Sim E (s.setB L (some (.row i.elem c2))) act w' γ' ∧ v = γ' (rt L) := by
  obtain ⟨B, capy, news, rfl, n1, n2, n3, n4, n5, n6⟩ := src_sound h hy hly hc2 (by omega)
  rw [hst2] at n1 n4 n5
  have hflat : (Blk.row i.elem c2).flatB := fun e' c' he' k j hk hj => by
    cases he'
    obtain ⟨u, _, h3⟩ := n4 k j hk (by rw [← hst2]; exact hj)
    exact sub_cell_none h3
  have mx : ∀ M, (Blk.row i.elem c2).has M → s.lv M := fun M ⟨k, j, hk, hj, hM⟩ => n5 k j M hk (by rw [← hst2]; exact hj) hM
  have hrun := run_append_any (P := P) (w := w) (A := A) (n := 0) (cap := 0) (olds := []) (c2 := capy) hi he hne hsz hby ty (Nat.le_refl _) (fun _ => ⟨rfl, rfl⟩) n3 n1 n2 (by omega) (fun a ha hp => by omega) (by simp)
  rcases hrun with ⟨hm, hr⟩ | ⟨bk, o, us, e1, hpos, _⟩ | ⟨cap', rest, hcap, hlen', hr⟩
  · refine ⟨_, w, upd γ (rt L) (.slice A 0 0), hr, ?_, by rw [upd_at]⟩
    exact h.new hL hlow (Fr.refl _ _) (fun bk hb => by rw [blkOf_slice0] at hb; cases hb) hflat mx (fun _ => .inl ⟨hm, A, upd_at _ _ _⟩)
  · omega
  · refine ⟨_, _, upd γ (rt L) (.slice (some ⟨w.heap.size, 0, none⟩) (0 + c2.len) cap'), hr, ?_, by rw [upd_at]⟩
    have hfr : Fr (fun _ => False) w (w.drew.alloc (.cells ([] ++ news ++ rest).toArray i.elem)) := ⟨rfl, rfl, rfl, by simp, fun k hk _ => Below.heap_alloc w.drew _ k hk⟩
    refine h.new hL hlow hfr (fun b hb => ?_) hflat mx (fun hk => ?_)
    · rcases Nat.eq_zero_or_pos cap' with h0 | h0
      · rw [h0, blkOf_slice0] at hb; cases hb
      · rw [blkOf_slice h0] at hb
        have hb' : w.heap.size = b := by simpa using hb
        rw [← hb']
        simp
    · rcases Nat.eq_zero_or_pos cap' with h0 | h0
      · exact .inl ⟨by omega, _, by rw [upd_at, h0, show 0 + c2.len = 0 by omega]⟩
      · refine .inr ⟨w.heap.size, 0, cap', [] ++ news ++ rest, by rw [upd_at, Nat.zero_add], h0, by omega, heap_alloc_new w.drew _, by rw [hst2, hlen']; omega, fun k j hk' hj => ?_⟩
        have hj' : j < e.size := by rw [← hst2]; exact hj
        obtain ⟨u, h1, h2⟩ := n4 k j hk' hj'
        refine ⟨u, ?_, n2 u (List.mem_of_getElem? h1), .of ((h2.keep hk).gam (fun _ M hM => upd_ne _ _ (fun e3 => not_lv hL (mx M ⟨k, j, hk', hj, hM⟩) (by rw [e3]))))⟩
        rw [hst2, Nat.zero_add, List.nil_append, List.getElem?_append_left (List.getElem?_eq_some_iff.1 h1).1]
        exact h1

theorem mvRow_spec {N M : Nm} {cell : Nat → Nat → AV} : ∀ {st : Nat} {p : Nat × Nat}, p ∈ mvRow s N cell st → p.1 < st ∧ cell 0 p.1 = .os (rt p.2) ∧ p.2 ≠ N.r ∧ low ≤ p.2 ∧ ∃ y, s.rblk p.2 = some y ∧ y.nest = true := by
  intro st
  induction st with
  | zero => intro p h; cases h
  | succ st ih =>
    intro p h
    unfold mvRow at h
    rcases List.mem_append.1 h with h | h
    · obtain ⟨h1, h2⟩ := ih h; exact ⟨by omega, h2⟩
    · obtain ⟨h1, h2, h3⟩ := mvOf1_spec h
      exact ⟨by omega, by rw [h1]; exact h2, h3⟩
theorem appMv_spec {N : Nm} {y : AV} {c2 : Ct} (hc : srcA s y = some c2) {p : Nat × Nat} (hp : p ∈ appMv s N y) : c2.len = 1 ∧ p.1 < c2.st ∧ c2.cell 0 p.1 = .os (rt p.2) ∧ p.2 ≠ N.r ∧ low ≤ p.2 ∧ (∃ z, s.rblk p.2 = some z ∧ z.nest = true) := by
  unfold appMv at hp
  split at hp
  · rename_i M
    split at hp
    · rename_i e n st cell hb
      cases hq : (Nat.beq n 1 && mvOk (mvRow s N (ldc M cell) st)) with
      | false => rw [hq] at hp; cases hp
      | true =>
        rw [hq] at hp
        simp only [cond_true] at hp
        simp only [Bool.and_eq_true] at hq
        have hn := Nat.eq_of_beq_eq_true hq.1
        have e2 : c2 = .tab n st (ldc M cell) := by
          simp only [srcA, hb] at hc
          cases hc; rfl
        subst e2
        exact ⟨hn, mvRow_spec (M := M) hp⟩
    · cases hp
  · cases hp
theorem appMv_ok {N : Nm} {y : AV} : mvOk (appMv s N y) = true := by
  unfold appMv
  split
  · split
    · rename_i M _ e n st cell _
      cases hq : (Nat.beq n 1 && mvOk (mvRow s N (ldc M cell) st)) with
      | false => rfl
      | true => simp only [Bool.and_eq_true] at hq; exact hq.2
    · rfl
  · rfl

theorem app_sound (h : Sim E s act w γ) {t : Nat} {i e : TyI} (hi : tyChk P t i = true) (he : tyChk P i.elem e = true) (hne : i.elem ≠ 0) (hsz : 0 < e.size) (hby : e.bytes ≤ 256) (ty : TypeId) {L d : Nat} (hlow : low ≤ L) (hd : d < s.n) {x y : Operand} {p : Prop} {s' : St}
    (hap : appA s i.elem e.size L d (s.ev x) (s.ev y) = .ok p s') (hp : p) : ∃ v w' γ', (Builtin.append_ #[t, t] ty #[act.eval x, act.eval y]).run P w = .ok v w' ∧ Sim E s' (act.put (some d) v) w' γ' := by
  obtain ⟨hx1, hx2⟩ := ev_sound h x
  obtain ⟨hy1, hy2⟩ := ev_sound h y
  have fresh : ∀ (A : Option Addr), act.eval x = .slice A 0 0 → ∀ {c2 : Ct}, srcA s (s.ev y) = some c2 → c2.st = e.size → s.rblk L = none → c2.len ≤ 1073741824 →
      ∃ v w' γ', (Builtin.append_ #[t, t] ty #[act.eval x, act.eval y]).run P w = .ok v w' ∧ Sim E (((s.setB L (some (.row i.elem c2))).put d (.os (rt L))).mvs (rt L) 0 (appMv s (rt L) (s.ev y))) (act.put (some d) v) w' γ' := by
    intro A hA c2 hc2 hst hL hlen
    obtain ⟨v, w', γ', r1, r2, r3⟩ := append_new (P := P) (A := A) h hi he hne hsz hby ty hlow hL hy1 hy2 hc2 hst hlen
    have hS := r2.put (d := d) (v := v) (x := .os (rt L)) (by exact hd) ⟨rfl, by rw [r3]⟩ (fun M hM => (show rt L = M from hM) ▸ lv_setB)
    have hat : ((s.setB L (some (.row i.elem c2))).put d (.os (rt L))).at (rt L) (.row i.elem c2) := at_setB_eq.2 rfl
    rcases Nat.eq_zero_or_pos c2.len with h0 | h0
    · have hnil : appMv s (rt L) (s.ev y) = [] := by
        cases hl : appMv s (rt L) (s.ev y) with
        | nil => rfl
        | cons q l => have := (appMv_spec (N := rt L) hc2 (p := q) (by rw [hl]; simp)).1; omega
      rw [hnil]
      exact ⟨v, w', γ', by rw [hA]; exact r1, hS⟩
    · obtain ⟨γ2, h2⟩ := hS.mvs (appMv s (rt L) (s.ev y)) hat h0 appMv_ok (fun q hq => by
        obtain ⟨g1, g2, g3, g4, g5, z, g6, g7⟩ := appMv_spec (N := rt L) hc2 hq
        refine ⟨g2, g3, g4, z, ?_, g7⟩
        show (s.setB L _).rblk q.2 = _
        rw [St.rblk_setB, if_neg (Ne.symm g4)]; exact g6)
      exact ⟨v, w', γ2, by rw [hA]; exact r1, h2⟩
  unfold appA at hap
  split at hap
  · rename_i c2 hc2
    split at hap
    · rename_i N hN
      rw [hN] at hx1 hx2
      obtain ⟨_, ex⟩ := hx1
      have ex' : act.eval x = γ N := by simpa using ex
      split at hap
      · rename_i e' cc hNp hb'
        cases hbc : (Nat.beq e' i.elem && Nat.beq cc.st e.size && Nat.beq c2.st e.size && Nat.ble low N.r) with
        | false => rw [hbc] at hap; cases hap
        | true =>
          rw [hbc] at hap
          simp only [cond_true] at hap
          simp only [Bool.and_eq_true] at hbc
          obtain ⟨⟨⟨k1, k2⟩, k3⟩, k4⟩ := hbc
          obtain rfl := Nat.eq_of_beq_eq_true k1
          have hNat := St.lv_at (hx2 N rfl) hb'
          have eN : N = rt N.r := by obtain ⟨r, q⟩ := N; simp only at hNp; rw [hNp]
          split at hap
          · rename_i c' happ
            cases hap
            have hst := Nat.eq_of_beq_eq_true k2
            have hst2 := Nat.eq_of_beq_eq_true k3
            obtain ⟨v, w', γ', r1, r2, r3⟩ := append_os (P := P) h hi he hne hsz hby ty (Nat.le_of_ble_eq_true k4) (by rw [← eN]; exact hNat) hy1 hy2 hc2 hst hst2 happ hp
            rw [← eN] at r1
            obtain ⟨a1, a2, a3, a4, a5⟩ := app_spec happ (hst2.trans hst.symm)
            have hS := r2.put (d := d) (v := v) (x := .os (rt N.r)) (by exact hd) ⟨rfl, by rw [r3]⟩ (fun M hM => (show rt N.r = M from hM) ▸ lv_setB)
            have hat : (((s.kill (atR N.r)).setB N.r (some ((Blk.row i.elem c').kill (atR N.r)))).put d (.os (rt N.r))).at (rt N.r) (.row i.elem (c'.kill (atR N.r))) := at_setB_eq.2 rfl
            rw [show appMv s N (s.ev y) = appMv s (rt N.r) (s.ev y) by rw [← eN]]
            rcases Nat.eq_zero_or_pos c2.len with h0 | h0
            · have hnil : appMv s (rt N.r) (s.ev y) = [] := by
                cases hl : appMv s (rt N.r) (s.ev y) with
                | nil => rfl
                | cons q l => have := (appMv_spec (N := rt N.r) hc2 (p := q) (by rw [hl]; simp)).1; omega
              rw [hnil]
              exact ⟨v, w', γ', by rw [ex']; exact r1, hS⟩
            · obtain ⟨γ2, h2⟩ := hS.mvs (k := cc.len) (appMv s (rt N.r) (s.ev y)) hat (by rw [Ct.kill_len, a1]; omega) appMv_ok (fun q hq => by
                obtain ⟨g1, g2, g3, g4, g5, z, g6, g7⟩ := appMv_spec (N := rt N.r) hc2 hq
                refine ⟨by rw [Ct.kill_st, a2]; omega, ?_, g4, z.kill (atR N.r), ?_, by rw [nest_kill]; exact g7⟩
                · rw [Ct.kill_cell]
                  have := a4 0 q.1 (by omega) (by omega)
                  rw [Nat.add_zero] at this
                  rw [this, g3]
                  have : atR N.r (rt q.2) = false := beq_ne g4
                  simp [AV.kill, this]
                · show ((s.kill (atR N.r)).setB N.r _).rblk q.2 = _
                  rw [St.rblk_setB, if_neg (Ne.symm g4), rblk_kill, g6]; rfl)
              exact ⟨v, w', γ2, by rw [ex']; exact r1, h2⟩
          · cases hap
      · cases hap
    · rename_i hN
      rw [hN] at hx1
      have ex' : act.eval x = .slice none 0 0 := by simpa [Reps] using hx1
      cases hbc : Nat.beq c2.st e.size with
      | false => rw [hbc] at hap; cases hap
      | true =>
        rw [hbc] at hap
        simp only [cond_true] at hap
        split at hap
        · rename_i hbl
          cases hap
          exact fresh none ex' hc2 (Nat.eq_of_beq_eq_true hbc) hbl hp
        · cases hap
    · rename_i hN
      rw [hN] at hx1
      obtain ⟨A, ex⟩ := hx1
      have ex' : act.eval x = .slice A 0 0 := by simpa using ex
      cases hbc : Nat.beq c2.st e.size with
      | false => rw [hbc] at hap; cases hap
      | true =>
        rw [hbc] at hap
        simp only [cond_true] at hap
        split at hap
        · rename_i hbl
          cases hap
          exact fresh A ex' hc2 (Nat.eq_of_beq_eq_true hbc) hbl hp
        · cases hap
    · cases hap
  · cases hap
end
end Go.Proofs.Ytbncmiglhjfcdaa
