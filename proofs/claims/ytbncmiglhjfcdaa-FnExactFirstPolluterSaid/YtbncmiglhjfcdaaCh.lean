/-
  All operations that leave old memory alone.
-/
import Derived.Test.YtbncmiglhjfcdaaCg
import Derived.IntWalk
import Derived.Laws.Small
import Derived.Laws.Slices
namespace Go.Proofs.Ytbncmiglhjfcdaa
open Go.RowKit
set_option linter.unusedVariables false

section
variable {P : Program} {τ : List (Nat × TyI)} {E : Ent0} {w : World} {s : St} {act : Act} {γ : Nm → Value}

def St.addB (s : St) (L : Nat) : Option Blk → St
  | none => s
  | some x => s.setB L (some x)

theorem lv_addB {L : Nat} {x : Blk} : (s.addB L (some x)).lv (rt L) := ⟨x, at_root.2 (by simp [St.addB, St.rblk_setB])⟩

def QRes (P : Program) (E : Ent0) (s : St) (act : Act) (w : World) (r : Result Value) (L : Nat) (a : AV) (nb : Option Blk) : Prop :=
  ∃ v w' γ', r = .ok v w' ∧ Sim E (s.addB L nb) act w' γ' ∧ Reps w' (E.ow ((s.addB L nb).own γ')) γ' a .o [v] ∧ (s.addB L nb).live a

theorem QRes.same (h : Sim E s act w γ) {L : Nat} {a : AV} {v : Value} {r : Result Value} (hr : r = .ok v w) (ha : Reps w (E.ow (s.own γ)) γ a .o [v]) (hl : s.live a) : QRes P E s act w r L a none :=
  ⟨v, w, γ, hr, h, ha, hl⟩

theorem fr_alloc (w : World) (o : Obj) : Fr (fun _ => False) w (w.alloc o) := ⟨rfl, rfl, rfl, by simp, fun k hk _ => Below.heap_alloc w o k hk⟩

theorem new_box (h : Sim E s act w γ) {L : Nat} (hL : s.rblk L = none) (hlow : low ≤ L) {l : AV} {us : List Value} (hl : Reps w (E.ow (s.own γ)) γ l .o us) (hv : s.live l) (h1 : ∀ u ∈ us, u.oneCell' = true) (ty : TypeId) :
    Sim E (s.setB L (some (.box l))) act (w.alloc (.cells us.toArray ty)) (upd γ (rt L) (.pointer (some ⟨w.heap.size, 0, none⟩))) := by
  refine h.new hL hlow (fr_alloc w _) (fun bk hb => by cases hb; simp) (fun e c he => by cases he) hv (fun hk => ?_)
  refine ⟨w.heap.size, us, ty, upd_at _ _ _, heap_alloc_new w _, h1, ?_⟩
  exact (hl.keep hk).gam (fun _ M hM => upd_ne _ _ (fun e => not_lv hL (hv M hM) (by rw [e])))

theorem new_row (h : Sim E s act w γ) {L : Nat} (hL : s.rblk L = none) (hlow : low ≤ L) {c : Ct} {us : List Value} {cap : Nat} {e : TypeId} (hc : c.len ≤ cap) (hu : cap * c.st ≤ us.length)
    (hcell : ∀ k j, k < c.len → j < c.st → ∃ u, us[k * c.st + j]? = some u ∧ u.oneCell' = true ∧ Reps w (E.ow (s.own γ)) γ (c.cell k j) .o [u]) (hv : ∀ k j, k < c.len → j < c.st → s.live (c.cell k j)) :
    Sim E (s.setB L (some (.row e c))) act (w.alloc (.cells us.toArray e)) (upd γ (rt L) (.slice (some ⟨w.heap.size, 0, none⟩) c.len cap)) := by
  have hflat : (Blk.row e c).flatB := fun e' c' he k j hk hj => by
    cases he
    obtain ⟨u, _, _, h3⟩ := hcell k j hk hj
    generalize c.cell k j = a at h3
    cases a <;> first | rfl | exact h3.elim
  refine h.new hL hlow (fr_alloc w _) (fun bk hb => ?_) hflat (fun M ⟨k, j, hk, hj, hM⟩ => hv k j hk hj M hM) (fun hk => ?_)
  · rcases Nat.eq_zero_or_pos cap with rfl | hp
    · rw [blkOf_slice0] at hb; cases hb
    · rw [blkOf_slice hp] at hb; cases hb; simp
  · rcases Nat.eq_zero_or_pos cap with rfl | hp
    · have h0 : c.len = 0 := by omega
      exact .inl ⟨h0, _, by rw [upd_at, h0]⟩
    · refine .inr ⟨w.heap.size, 0, cap, us, upd_at _ _ _, hp, hc, heap_alloc_new w _, by simpa using hu, fun k j hk' hj => ?_⟩
      obtain ⟨u, h1, ho, h2⟩ := hcell k j hk' hj
      exact ⟨u, by simpa using h1, ho, .of ((h2.keep hk).gam (fun _ M hM => upd_ne _ _ (fun e => not_lv hL (hv k j hk' hj M hM) (by rw [e]))))⟩

theorem q_box (h : Sim E s act w γ) {L : Nat} (hL : s.rblk L = none) (hlow : low ≤ L) {a : AV} {v : Value} (hr : Reps w (E.ow (s.own γ)) γ a .o [v]) (hl : s.live a) (hf : a.flat = true) (t : TypeId) :
    QRes P E s act w ((Instr.box t v).run P w) L (.op (rt L) 0) (some (.box a.cells)) := by
  obtain ⟨h1, ho⟩ := hr.cells hf (live_one h hl)
  have h2 := new_box h hL hlow h1 (fun M hM => hl M (has_cells hM)) ho t
  refine ⟨_, _, _, ?_, h2, ⟨rfl, rfl, by rw [upd_at]; exact ⟨w.heap.size, 0, fun j => rfl⟩⟩, fun M hM => (show rt L = M from hM) ▸ lv_addB⟩
  rw [upd_at]
  simp [Instr.box, newVar, newRow, ptrAt]

theorem q_alloc (h : Sim E s act w γ) {L : Nat} (hL : s.rblk L = none) (hlow : low ≤ L) {t : Nat} {i : TyI} (hi : tyChk P t i = true) :
    QRes P E s act w ((Instr.alloc t true (.tuple #[])).run P w) L (.op (rt L) 0) (some (.box i.zero)) := by
  obtain ⟨inf, z, h1, h2, h3, h4, h5⟩ := tyChk_info hi
  obtain ⟨hz1, hz2, hz3⟩ := zeroB_spec (w := w) (own := E.ow (s.own γ)) (γ := γ) (ro := .o) h5
  have h6 := new_box h hL hlow hz1 (fun M hM => absurd hM (hz3 M)) (hz1.ones hz2 (fun L hL => absurd hL (hz3 L))) t
  refine ⟨_, _, _, ?_, h6, ⟨rfl, rfl, by rw [upd_at]; exact ⟨w.heap.size, 0, fun j => rfl⟩⟩, fun M hM => (show rt L = M from hM) ▸ lv_addB⟩
  rw [upd_at]
  simp [Instr.alloc, zeroValue, typeInfo, h1, h4, newVar, newRow, ptrAt]

theorem run_buildSlice' (w : World) (t e : TypeId) (len : Nat) (parts : Array (Nat × Value)) (cells : Array Value) (ie : TypeInfo) (z : Value)
    (hu : P.underlying t = some (.slice e)) (hie : P.info? e = some ie) (hz : ie.zero = some z) (hsmall : ¬ len * ie.size > 2 ^ 24) (hpos : ¬ len * ie.size = 0)
    (h : Instr.fill (fun i => some (i * ie.size, ie.size)) ((Array.range (len * ie.size)).map (z.cells[· % z.cells.size]!)) parts.toList = some cells) :
    (Instr.buildSlice t len parts).run P w = .ok (.slice (some ⟨w.heap.size, 0, none⟩) len len) (w.alloc (.cells cells e)) := by
  simp [Instr.buildSlice, run_underlying hu, sizeOf, typeInfo, zeroValue, hie, hz, hsmall, hpos, h, newRow]
theorem run_buildSlice0 (w : World) (t e : TypeId) (len : Nat) (parts : Array (Nat × Value)) (cells : Array Value) (ie : TypeInfo)
    (hu : P.underlying t = some (.slice e)) (hie : P.info? e = some ie) (h0 : len * ie.size = 0)
    (h : Instr.fill (fun i => some (i * ie.size, ie.size)) #[] parts.toList = some cells) :
    (Instr.buildSlice t len parts).run P w = .ok (.slice (some ⟨w.heap.size, 0, none⟩) len len) (w.alloc (.cells cells e)) := by
  simp [Instr.buildSlice, run_underlying hu, sizeOf, typeInfo, hie, h0, h, newRow, Array.range_zero']

theorem q_buildSlice (h : Sim E s act w γ) {L : Nat} (hL : s.rblk L = none) (hlow : low ≤ L) {t : Nat} {i e : TyI} (hi : tyChk P t i = true) (he : tyChk P i.elem e = true) (hne : i.elem ≠ 0) (hsz : 0 < e.size)
    {len : Nat} (hle : len * e.size ≤ 16777216) {parts : Array (Nat × Operand)} {l : AV} (hp : partsA s e.size 0 parts.toList = some l) (hll : l.len = len * e.size) :
    QRes P E s act w ((Instr.buildSlice t len (parts.map fun (i, x) => (i, act.eval x))).run P w) L (.os (rt L)) (some (.row i.elem (ctOf e.zero e.size len l))) := by
  obtain ⟨inf, z, h1, h2, h3, h4, h5⟩ := tyChk_info he
  have hu := tyChk_elem hi hne
  have zl : e.zero.len = z.cells.size := by rw [zero_len h5]; simp
  obtain ⟨us0, h6, h7, h8, h9, h10⟩ := partsA_sound h parts.toList 0 l hp (List.replicate (parts.toList.length * e.size) undef) (by simp)
  have hpl : parts.toList.length * e.size = len * e.size := by rw [← h10, h7.len, hll]
  have hpl' : parts.toList.length = len := Nat.eq_of_mul_eq_mul_right hsz hpl
  obtain ⟨us, k6, k7, k8, k9, k10⟩ := partsA_sound h parts.toList 0 l hp ((Array.range (len * e.size)).map (z.cells[· % z.cells.size]!)).toList (by simp [← hpl'])
  simp only [Nat.zero_mul, List.take_zero, List.nil_append] at k6
  have hus : us.length = len * e.size := by rw [k10, hpl]
  obtain ⟨c1, c2, c3⟩ := ctOf_spec e.zero hll hsz (tyChk_zero he)
  have hlt : ∀ k j, k < len → j < e.size → k * e.size + j < len * e.size := fun k j hk hj => by
    have := Nat.mul_le_mul_right e.size hk
    rw [Nat.succ_mul] at this; omega
  have hlive : ∀ k j, k < (ctOf e.zero e.size len l).len → j < (ctOf e.zero e.size len l).st → s.live ((ctOf e.zero e.size len l).cell k j) := fun k j _ _ M hM => by
    unfold ctOf at hM
    split at hM
    · split at hM
      · exact hM.elim
      · exact k8 M (has_nth hM)
    · exact k8 M (has_nth hM)
  have hrow := new_row (e := i.elem) (cap := len) h hL hlow (c := ctOf e.zero e.size len l) (us := us) (by omega) (by rw [c2, hus]; exact Nat.le_refl _) (fun k j hk hj => by
    rw [c1] at hk; rw [c2] at hj ⊢
    rw [c3 k j hk hj]
    obtain ⟨u, hu1, hu2⟩ := k7.nth (by rw [hll]; exact hlt k j hk hj)
    exact ⟨u, hu1, k9 u (List.mem_of_getElem? hu1), hu2⟩) hlive
  rw [c1] at hrow
  refine ⟨_, _, _, ?_, hrow, ⟨rfl, rfl⟩, fun M hM => (show rt L = M from hM) ▸ lv_addB⟩
  rw [upd_at]
  have hfill : Instr.fill (fun i => some (i * inf.size, inf.size)) ((Array.range (len * inf.size)).map (z.cells[· % z.cells.size]!)) (parts.map fun (i, x) => (i, act.eval x)).toList = some us.toArray := by
    rw [h2, ← k6, Array.toArray_toList, Array.toList_map]
  rw [← h2] at hle
  by_cases h0 : len * inf.size = 0
  · refine run_buildSlice0 w t i.elem len _ us.toArray inf hu h1 h0 ?_
    rw [← hfill, h0]
    simp [Array.range_zero']
  · have := run_buildSlice' (P := P) w t i.elem len (parts.map fun (i, x) => (i, act.eval x)) us.toArray inf z hu h1 h4 (by omega) h0 hfill
    exact this
end
end Go.Proofs.Ytbncmiglhjfcdaa
