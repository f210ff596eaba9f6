/-
  An operation that leaves old memory alone yields what is said.
-/
import Derived.Test.YtbncmiglhjfcdaaCe
namespace Go.Proofs.Ytbncmiglhjfcdaa
open Go.RowKit
set_option linter.unusedVariables false

section
variable {P : Program} {τ : List (Nat × TyI)} {E : Ent0} {w : World} {s : St} {act : Act} {γ : Nm → Value}

theorem cv_sound {own : Bool → Nat → Prop} (v : Value) : Reps w own γ (cv v) .o [v] ∧ ∀ M, ¬ (cv v).has M := by
  unfold cv
  split <;> exact ⟨rfl, fun _ h => h⟩
theorem ev_sound (h : Sim E s act w γ) (x : Operand) : Reps w (E.ow (s.own γ)) γ (s.ev x) .o [act.eval x] ∧ s.live (s.ev x) := by
  cases x with
  | tmp t => exact ⟨h.slots t, h.wf.slot t⟩
  | const v => exact ⟨(cv_sound v).1, fun M hM => absurd hM ((cv_sound (w := w) (γ := γ) (own := E.ow (s.own γ)) v).2 M)⟩
  | global g => exact ⟨rfl, fun M hM => hM.elim⟩
  | func f => exact ⟨⟨[], rfl, rfl⟩, fun M hM => hM.elim⟩
theorem evs_sound (h : Sim E s act w γ) (l : List Operand) : Reps w (E.ow (s.own γ)) γ (s.evs l) .o (l.map act.eval) ∧ s.live (s.evs l) := by
  induction l with
  | nil => exact ⟨rfl, fun M hM => hM.elim⟩
  | cons x l ih => exact ⟨⟨_, _, rfl, (ev_sound h x).1, ih.1⟩, fun M hM => hM.elim ((ev_sound h x).2 M) (ih.2 M)⟩

theorem live_one (h : Sim E s act w γ) {a : AV} (hl : s.live a) : ∀ L, a.has L → (γ L).oneCell' = true := by
  intro L hL
  obtain ⟨x, hx⟩ := hl L hL
  have hb := h.blks L x hx
  cases x with
  | box l => obtain ⟨bk, us, ty, e, _⟩ := hb; rw [e]; rfl
  | row e c => rcases hb with ⟨_, _, e⟩ | ⟨_, _, _, _, e, _⟩ <;> (rw [e]; rfl)
  | mp t m => obtain ⟨_, _, _, e, _⟩ := hb; rw [e]; rfl

theorem has_nth {L : Nm} : ∀ {l : AV} {j : Nat}, (l.nth j).has L → l.has L := by
  intro l
  induction l with
  | cons a l iha ihl =>
    intro j h
    cases j with
    | zero => exact .inl h
    | succ j => exact .inr (ihl h)
  | nil => intro j h; exact h.elim
  | _ => intro j h; cases j with | zero => exact h | succ j => exact h.elim
theorem has_drop {L : Nm} : ∀ {l : AV} {j : Nat}, (l.drop j).has L → l.has L := by
  intro l
  induction l with
  | cons a l iha ihl =>
    intro j h
    cases j with
    | zero => exact h
    | succ j => exact .inr (ihl h)
  | _ => intro j h; cases j with | zero => exact h | succ j => exact h.elim
theorem has_take {L : Nm} : ∀ {l : AV} {j : Nat}, (l.take j).has L → l.has L := by
  intro l
  induction l with
  | cons a l iha ihl =>
    intro j h
    cases j with
    | zero => exact h.elim
    | succ j => exact h.elim .inl (fun h => .inr (ihl h))
  | _ => intro j h; cases j with | zero => exact h.elim | succ j => exact h
theorem has_app {L : Nm} : ∀ {l m : AV}, (l.app m).has L → l.has L ∨ m.has L := by
  intro l
  induction l with
  | nil => intro m h; exact .inr h
  | cons a l iha ihl =>
    intro m h
    rcases h with h | h
    · exact .inl (.inl h)
    · exact (ihl h).elim (fun h => .inl (.inr h)) .inr
  | _ => intro m h; exact h
theorem has_splice {L : Nm} {l m : AV} {j : Nat} (h : (l.splice j m).has L) : l.has L ∨ m.has L := by
  rcases has_app h with h | h
  · exact .inl (has_take h)
  · rcases has_app h with h | h
    · exact .inr h
    · exact .inl (has_drop h)
theorem has_cells {L : Nm} {a : AV} (h : a.cells.has L) : a.has L := by
  cases a <;> exact h
theorem has_rowA {L : Nm} {cell : Nat → AV} : ∀ {n j : Nat}, (rowA cell j n).has L → ∃ k, k < j + n ∧ (cell k).has L
  | 0, _, h => h.elim
  | n + 1, j, h => h.elim (fun h => ⟨j, by omega, h⟩) (fun h => by obtain ⟨k, h1, h2⟩ := has_rowA (n := n) h; exact ⟨k, by omega, h2⟩)
theorem has_addA {L : Nm} {o : Nat} {a : AV} (h : (addA a o).has L) : a.has L := by
  cases a <;> first | exact h | exact h.elim
theorem has_evs (h : Sim E s act w γ) (l : List Operand) : s.live (s.evs l) := (evs_sound h l).2

/-- Loading a variable. -/
theorem run_loadAt {t : Nat} {i : TyI} (hi : tyChk P t i = true) {bk o : Nat} {us : List Value} (hl : us.length = (if i.agg then i.size else 1)) (hc : ∀ j u, us[j]? = some u → w.cell? ⟨bk, o + j, none⟩ = some u) :
    (Instr.loadAt t (.pointer (some ⟨bk, o, none⟩))).run P w = .ok (if i.agg then .agg us.toArray else us.getD 0 undef) w := by
  obtain ⟨inf, z, h1, h2, h3, h4, h5⟩ := tyChk_info hi
  have hcell : ∀ j u, us[j]? = some u → w.cell? ((⟨bk, o, none⟩ : Addr).add j) = some u := fun j u hu => by
    have : (⟨bk, o, none⟩ : Addr).add j = ⟨bk, o + j, none⟩ := by unfold Addr.add; split <;> simp_all
    rw [this]; exact hc j u hu
  cases ha : i.agg with
  | true =>
    rw [ha] at hl
    have hs : us.length = inf.size := by rw [h2]; simpa using hl
    have hr := run_loadCells_list (P := P) w ⟨bk, o, none⟩ us hcell
    simp [Instr.loadAt, Instr.sureAddr, loadVar, tyChk_agg hi, ha, sizeOf, typeInfo, h1, ← hs, hr]
  | false =>
    rw [ha] at hl
    match us, hl with
    | [u], _ =>
      have := hc 0 u rfl
      simp [Instr.loadAt, Instr.sureAddr, loadVar, tyChk_agg hi, ha]
      rw [show w.cell? ⟨bk, o, none⟩ = some u from this]

theorem rowA_reps {own : Bool → Nat → Prop} {cell : Nat → AV} {f : Nat → Value} {ro : Md} : ∀ (n j : Nat), (∀ k, j ≤ k → k < j + n → Reps w own γ (cell k) ro [f k]) → Reps w own γ (rowA cell j n) ro ((List.range' j n).map f)
  | 0, j, h => rfl
  | n + 1, j, h => ⟨f j, (List.range' (j + 1) n).map f, by simp [List.range'_succ], h j (Nat.le_refl _) (by omega), rowA_reps n (j + 1) (fun k h1 h2 => h k (by omega) (by omega))⟩

/-- A table's row, whole or one cell of it. -/
theorem load_table {t : Nat} {i : TyI} (hi : tyChk P t i = true) {bk o j st : Nat} {cell : Nat → AV} {own : Bool → Nat → Prop} {ro : Md} (hj : (if i.agg then j + i.size ≤ st else j < st))
    (hc : ∀ j, j < st → ∃ u, w.cell? ⟨bk, o + j, none⟩ = some u ∧ Reps w own γ (cell j) ro [u]) :
    ∃ v, (Instr.loadAt t (.pointer (some ⟨bk, o + j, none⟩))).run P w = .ok v w ∧ Reps w own γ (if i.agg then .agg (rowA cell j i.size) else cell j) ro [v] := by
  have hc' : ∀ k, ∃ u, k < st → w.cell? ⟨bk, o + k, none⟩ = some u ∧ Reps w own γ (cell k) ro [u] := fun k => by
    by_cases h : k < st
    · obtain ⟨u, hu⟩ := hc k h; exact ⟨u, fun _ => hu⟩
    · exact ⟨undef, fun h' => absurd h' h⟩
  let f : Nat → Value := fun k => Classical.choose (hc' k)
  have hf : ∀ k, k < st → w.cell? ⟨bk, o + k, none⟩ = some (f k) ∧ Reps w own γ (cell k) ro [f k] := fun k => Classical.choose_spec (hc' k)
  cases ha : i.agg with
  | true =>
    rw [ha] at hj
    have hj' : j + i.size ≤ st := by simpa using hj
    refine ⟨_, run_loadAt hi (us := (List.range' j i.size).map f) (by simp [ha]) (fun k u hu => ?_), ?_⟩
    · simp only [List.getElem?_map] at hu
      by_cases hk : k < i.size
      · simp [hk] at hu
        rw [← hu, Nat.add_assoc]
        exact (hf (j + k) (by omega)).1
      · rw [List.getElem?_eq_none (by simpa using hk)] at hu; cases hu
    · simp only [ha, if_true]
      exact ⟨_, rfl, rowA_reps i.size j (fun k h1 h2 => (hf k (by omega)).2)⟩
  | false =>
    rw [ha] at hj
    have hj' : j < st := by simpa using hj
    refine ⟨_, run_loadAt hi (us := [f j]) (by simp [ha]) (fun k u hu => ?_), ?_⟩
    · cases k with
      | zero => cases hu; exact (hf j hj').1
      | succ k => cases hu
    · simpa [ha] using (hf j hj').2

theorem ldc_rep {own : Bool → Nat → Prop} {N : Nm} {cell : Nat → Nat → AV} {k j : Nat} {u : Value} (h : CellR w own γ N k j (cell k j) u) : Reps w own γ (ldc N cell k j) .o [u] := by
  unfold ldc
  split
  · rename_i e; rw [e] at h; exact ⟨rfl, by rw [h.own rfl]⟩
  · rename_i e; rw [e] at h; exact ⟨rfl, by rw [h.own rfl]⟩
  · rename_i n1 n2
    refine h.rep ?_
    generalize cell k j = a at n1 n2
    cases a <;> first | rfl | exact absurd rfl (n1 _ _ _) | exact absurd rfl (n2 _ _ _ _)
theorem ldc_lv (h : Sim E s act w γ) {N : Nm} {e : TypeId} {c : Ct} {k j : Nat} (hN : s.at N (.row e c)) (hk : k < c.len) (hj : j < c.st) {M : Nm} (hM : (ldc N c.cell k j).has M) : s.lv M := by
  unfold ldc at hM
  split at hM
  · rename_i e1
    have : N.kid k j = M := hM
    subst this
    exact ⟨_, at_kid hN hk hj (by rw [e1]; rfl)⟩
  · rename_i e1
    have : N.kid k j = M := hM
    subst this
    exact ⟨_, at_kid hN hk hj (by rw [e1]; rfl)⟩
  · exact h.wf.blk N _ M hN ⟨k, j, hk, hj, hM⟩

theorem load_sound (h : Sim E s act w γ) {t : Nat} {i : TyI} (hi : tyChk P t i = true) {x : AV} {v : Value} (hx : Reps w (E.ow (s.own γ)) γ x .o [v]) (hlx : s.live x) {a : AV} {nb : Option Blk}
    (hy : Yields (loadA s i.agg i.size x) a nb) : nb = none ∧ ∃ u, (Instr.loadAt t v).run P w = .ok u w ∧ Reps w (E.ow (s.own γ)) γ a .o [u] ∧ s.live a := by
  cases x with
  | op L j =>
    obtain ⟨_, e, _⟩ := hx
    cases e
    simp only [loadA] at hy
    split at hy
    · rename_i l hL
      have hL' := St.lv_at (hlx L rfl) hL
      obtain ⟨bk, us, ty, e, h1, _, h2⟩ := h.blks _ _ hL'
      have hcell : ∀ k, w.cell? ⟨bk, 0 + k, none⟩ = us[k]? := fun k => by rw [cell_heap h1]; simp
      have hlv : s.live l := fun M hM => h.wf.blk _ _ M hL' hM
      have hp : ptrAt (γ L) j = .pointer (some ⟨bk, 0 + j, none⟩) := by rw [e]; rfl
      cases ha : i.agg with
      | true =>
        rw [ha] at hy
        simp only [cond_true] at hy
        cases hb : Nat.ble (j + i.size) l.len with
        | false => rw [hb] at hy; cases hy
        | true =>
          rw [hb] at hy
          have hb' := Nat.le_of_ble_eq_true hb
          cases hy
          have hr := (h2.drop j).take i.size
          refine ⟨rfl, .agg ((us.drop j).take i.size).toArray, ?_, ?_, fun M hM => hlv M (has_drop (has_take hM))⟩
          · rw [hp]
            have := run_loadAt (w := w) (P := P) hi (bk := bk) (o := 0 + j) (us := (us.drop j).take i.size) ?_ ?_
            · simpa [ha] using this
            · simp [ha, h2.len]; omega
            · intro k u hu
              rw [Nat.add_assoc, hcell]
              rw [List.getElem?_take] at hu
              split at hu
              · rw [List.getElem?_drop] at hu; exact hu
              · cases hu
          · exact ⟨_, rfl, hr⟩
      | false =>
        rw [ha] at hy
        simp only [cond_false] at hy
        cases hb : Nat.blt j l.len with
        | false => rw [hb] at hy; cases hy
        | true =>
          rw [hb] at hy
          have hb' : j < l.len := by simpa [Nat.blt_eq] using hb
          cases hy
          obtain ⟨u, h3, h4⟩ := h2.nth hb'
          refine ⟨rfl, u, ?_, h4, fun M hM => hlv M (has_nth hM)⟩
          rw [hp]
          have := run_loadAt (w := w) (P := P) hi (bk := bk) (o := 0 + j) (us := [u]) (by simp [ha]) (fun k v hv => by
            cases k with
            | zero => cases hv; rw [Nat.add_zero, hcell]; exact h3
            | succ k => cases hv)
          simpa [ha] using this
    · cases hy
  | oe L st k j =>
    obtain ⟨_, e, _⟩ := hx
    cases e
    simp only [loadA] at hy
    split at hy
    · rename_i e c hL0
      have hL := St.lv_at (hlx L rfl) hL0
      cases hst : Nat.beq c.st st with
      | false => rw [hst] at hy; cases hy
      | true =>
        rw [hst] at hy
        obtain rfl := Nat.eq_of_beq_eq_true hst
        have key : k < c.len → ∃ bk o, ptrAt (γ L) (k * c.st + j) = .pointer (some ⟨bk, o + k * c.st + j, none⟩) ∧ ∀ j, j < c.st → ∃ u, w.cell? ⟨bk, o + k * c.st + j, none⟩ = some u ∧ Reps w (E.ow (s.own γ)) γ (ldc L c.cell k j) .o [u] := by
          intro hk
          rcases h.blks L _ hL with ⟨h0, _⟩ | ⟨bk, o, cap, us, e1, hp, h1, h2, h3, h4⟩
          · omega
          · refine ⟨bk, o, by rw [e1, Nat.add_assoc]; rfl, fun j hj => ?_⟩
            obtain ⟨u, h5, _, h6⟩ := h4 k j hk hj
            exact ⟨u, by rw [cell_heap h2, Nat.add_assoc]; exact h5, ldc_rep h6⟩
        have hlv : k < c.len → ∀ M, ∀ j, j < c.st → (ldc L c.cell k j).has M → s.lv M := fun hk M j hj hM => ldc_lv h hL hk hj hM
        cases ha : i.agg with
        | true =>
          rw [ha] at hy
          simp only [cond_true] at hy
          cases hb : Nat.ble (j + i.size) c.st with
          | false => rw [hb] at hy; cases hy
          | true =>
            rw [hb] at hy
            have hb' := Nat.le_of_ble_eq_true hb
            cases hy
            rename_i hk
            obtain ⟨bk, o, e1, h1⟩ := key hk
            obtain ⟨v, h2, h3⟩ := load_table (P := P) hi (j := j) (st := c.st) (by simpa [ha] using hb') h1
            refine ⟨rfl, v, by rw [e1]; exact h2, by simpa [ha] using h3, fun M hM => ?_⟩
            obtain ⟨j', hj0, hj'⟩ := has_rowA (show (rowA (ldc L c.cell k) j i.size).has M from hM)
            exact hlv hk M j' (by omega) hj'
        | false =>
          rw [ha] at hy
          simp only [cond_false, cond_true] at hy
          cases hb : Nat.blt j c.st with
          | false => rw [hb] at hy; cases hy
          | true =>
            rw [hb] at hy
            have hb' : j < c.st := by simpa [Nat.blt_eq] using hb
            cases hy
            rename_i hk
            obtain ⟨bk, o, e1, h1⟩ := key hk
            obtain ⟨v, h2, h3⟩ := load_table (P := P) hi (j := j) (st := c.st) (by simpa [ha] using hb') h1
            exact ⟨rfl, v, by rw [e1]; exact h2, by simpa [ha] using h3, fun M hM => hlv hk M j hb' hM⟩
    · cases hy
  | rp f n st cell k j =>
    obtain ⟨bk, o, e, hk, h1, h2, h3⟩ := hx
    cases e
    have h3' : ∀ j, j < st → ∃ u, w.cell? ⟨bk, o + k * st + j, none⟩ = some u ∧ Reps w (E.ow (s.own γ)) γ (cell k j) (.r f) [u] := fun j hj => by
      rw [Nat.add_assoc]; obtain ⟨u, h5, _, h6⟩ := h3 k j hk hj; exact ⟨u, h5, h6⟩
    simp only [loadA] at hy
    cases ha : i.agg with
    | true =>
      rw [ha] at hy
      simp only [cond_true] at hy
      cases hb : Nat.ble (j + i.size) st with
      | false => rw [hb] at hy; cases hy
      | true =>
        rw [hb] at hy
        have hb' := Nat.le_of_ble_eq_true hb
        cases hy
        obtain ⟨v, h4, h5⟩ := load_table (P := P) hi (j := j) (st := st) (by simpa [ha] using hb') h3'
        rw [Nat.add_assoc] at h4
        have h5' : Reps w (E.ow (s.own γ)) γ (.agg (rowA (cell k) j i.size)) (.r f) [v] := by simpa [ha] using h5
        exact ⟨rfl, v, h4, h5'.ro (ow_mono _ _), fun M hM => absurd hM h5'.has_ro⟩
    | false =>
      rw [ha] at hy
      simp only [cond_false] at hy
      cases hb : Nat.blt j st with
      | false => rw [hb] at hy; cases hy
      | true =>
        rw [hb] at hy
        have hb' : j < st := by simpa [Nat.blt_eq] using hb
        cases hy
        obtain ⟨v, h4, h5⟩ := load_table (P := P) hi (j := j) (st := st) (by simpa [ha] using hb') h3'
        rw [Nat.add_assoc] at h4
        have h5' : Reps w (E.ow (s.own γ)) γ (cell k j) (.r f) [v] := by simpa [ha] using h5
        exact ⟨rfl, v, h4, h5'.ro (ow_mono _ _), fun M hM => absurd hM h5'.has_ro⟩
  | _ => cases hy
end
end Go.Proofs.Ytbncmiglhjfcdaa
