/-
  How a state stays true: a slot is written, a block is made or written, a callee has made memory.
-/
import Derived.Test.YtbncmiglhjfcdaaCa
namespace Go.Proofs.Ytbncmiglhjfcdaa
open Go.RowKit
set_option linter.unusedVariables false

def upd (γ : Nm → Value) (L : Nm) (g : Value) (M : Nm) : Value := if M = L then g else γ M
theorem upd_at (γ : Nm → Value) (L : Nm) (g : Value) : upd γ L g L = g := by simp [upd]
theorem upd_ne (γ : Nm → Value) {L M : Nm} (g : Value) (h : M ≠ L) : upd γ L g M = γ M := by simp [upd, h]

theorem cell_heap {w : World} {bk o : Nat} {us : List Value} {ty : TypeId} {fz : Nat × Nat} (h : w.heap[bk]? = some (.cells us.toArray ty fz)) : w.cell? ⟨bk, o, none⟩ = us[o]? := by
  simp [World.cell?, h]
theorem heap_lt {w : World} {bk : Nat} {o : Obj} (h : w.heap[bk]? = some o) : bk < w.heap.size := by
  rcases Nat.lt_or_ge bk w.heap.size with h1 | h1
  · exact h1
  · rw [Array.getElem?_eq_none h1] at h; cases h

theorem blkOf_slice {a : Addr} {n cap : Nat} (h : 0 < cap) : blkOf (.slice (some a) n cap) = some a.block := by simp [blkOf, Nat.ne_of_gt h]
theorem blkOf_slice0 {A : Option Addr} {n : Nat} : blkOf (.slice A n 0) = none := by cases A <;> simp [blkOf]
theorem BlkOk.lt {w : World} {own : Bool → Nat → Prop} {γ : Nm → Value} {N : Nm} {x : Blk} (h : BlkOk w own γ N x) {bk : Nat} (hb : blkOf (γ N) = some bk) : bk < w.heap.size := by
  cases x with
  | box l =>
    obtain ⟨b, us, ty, e, h1, _⟩ := h
    rw [e] at hb; cases hb
    exact heap_lt h1
  | row e c =>
    rcases h with ⟨_, A, e⟩ | ⟨b, o, cap, us, e, hp, _, h1, _⟩
    · rw [e, blkOf_slice0] at hb; cases hb
    · rw [e, blkOf_slice hp] at hb; cases hb
      exact heap_lt h1
  | mp t m =>
    obtain ⟨r, es, clock, e, h1, _⟩ := h
    rw [e] at hb; cases hb
    exact heap_lt h1

/-- Rows that differ in what their own slices hold alone. -/
def SameSh : Blk → Blk → Prop
  | .row e c, y => ∃ c', y = .row e c' ∧ c'.len = c.len ∧ c'.st = c.st ∧ ∀ i j, i < c.len → j < c.st → c'.cell i j = c.cell i j ∨ ((c.cell i j).sub.isSome = true ∧ (c'.cell i j).sub.isSome = true)
  | x, y => y = x
theorem SameSh.refl (x : Blk) : SameSh x x := by
  cases x with
  | row e c => exact ⟨c, rfl, rfl, rfl, fun _ _ _ _ => .inl rfl⟩
  | _ => rfl
theorem SameSh.has {x y : Blk} (h : SameSh x y) {L : Nm} (hL : y.has L) : x.has L := by
  cases x with
  | row e c =>
    obtain ⟨c', rfl, h1, h2, h3⟩ := h
    obtain ⟨k, j, hk, hj, hM⟩ := hL
    rw [h1] at hk
    rw [h2] at hj
    rcases h3 k j hk hj with e1 | ⟨_, e1⟩
    · exact ⟨k, j, hk, hj, by rw [← e1]; exact hM⟩
    · obtain ⟨z, hz⟩ := Option.isSome_iff_exists.1 e1
      exact absurd hM (sub_has hz L)
  | box l => cases h; exact hL
  | mp t m => cases h; exact hL
theorem BlkOk.same {w : World} {own : Bool → Nat → Prop} {γ : Nm → Value} {N : Nm} {x y : Blk} (h : BlkOk w own γ N x) (hs : SameSh x y) : BlkOk w own γ N y := by
  cases x with
  | row e c =>
    obtain ⟨c', rfl, h1, h2, h3⟩ := hs
    rcases h with ⟨h0, e0⟩ | ⟨bk, o, cap, us, e0, hp, hc, h4, h5, h6⟩
    · exact .inl ⟨by rw [h1]; exact h0, e0⟩
    · refine .inr ⟨bk, o, cap, us, by rw [h1]; exact e0, hp, by rw [h1]; exact hc, h4, by rw [h2]; exact h5, fun k j hk hj => ?_⟩
      rw [h1] at hk
      rw [h2] at hj ⊢
      obtain ⟨u, h7, ho, h8⟩ := h6 k j hk hj
      refine ⟨u, h7, ho, ?_⟩
      rcases h3 k j hk hj with e1 | ⟨e1, e2⟩
      · rw [e1]; exact h8
      · obtain ⟨z, hz⟩ := Option.isSome_iff_exists.1 e1
        obtain ⟨z', hz'⟩ := Option.isSome_iff_exists.1 e2
        unfold CellR at h8 ⊢
        rw [hz] at h8
        rw [hz']; exact h8
  | box l => cases hs; exact h
  | mp t m => cases hs; exact h

theorem CellR.keep {w w' : World} {own own' : Bool → Nat → Prop} {γ γ' : Nm → Value} {N : Nm} {i j : Nat} {a : AV} {u : Value} (h : CellR w own γ N i j a u) (hk : Keeps w w' own own') (hg : ∀ M, a.has M → γ' M = γ M)
    (hs : a.sub.isSome = true → γ' (N.kid i j) = γ (N.kid i j)) : CellR w' own' γ' N i j a u := by
  unfold CellR at h ⊢
  cases ha : a.sub with
  | none => rw [ha] at h; exact (h.keep hk).gam (fun _ => hg)
  | some z => rw [ha] at h; rw [hs (by rw [ha]; rfl)]; exact h
theorem CellR.rep {w : World} {own : Bool → Nat → Prop} {γ : Nm → Value} {N : Nm} {i j : Nat} {a : AV} {u : Value} (h : CellR w own γ N i j a u) (ha : a.sub = none) : Reps w own γ a .o [u] := by
  unfold CellR at h; rw [ha] at h; exact h
theorem CellR.of {w : World} {own : Bool → Nat → Prop} {γ : Nm → Value} {N : Nm} {i j : Nat} {a : AV} {u : Value} (h : Reps w own γ a .o [u]) : CellR w own γ N i j a u := by
  unfold CellR
  cases ha : a.sub with
  | none => exact h
  | some z => cases a <;> first | (cases ha; done) | exact h.elim
theorem CellR.own {w : World} {own : Bool → Nat → Prop} {γ : Nm → Value} {N : Nm} {i j : Nat} {a : AV} {u : Value} {z : Blk} (h : CellR w own γ N i j a u) (ha : a.sub = some z) : u = γ (N.kid i j) := by
  unfold CellR at h; rw [ha] at h; exact h
/-- A block's truth is kept where its own cells, and what is read, are as they were. -/
theorem BlkOk.keep {w w' : World} {own own' : Bool → Nat → Prop} {γ γ' : Nm → Value} {N N' : Nm} {x : Blk} (h : BlkOk w own γ N x) (hk : Keeps w w' own own') (hL : γ' N' = γ N) (hg : ∀ M, x.has M → γ' M = γ M)
    (hs : ∀ e c i j, x = .row e c → i < c.len → j < c.st → (c.cell i j).sub.isSome = true → γ' (N'.kid i j) = γ (N.kid i j))
    (hb : ∀ bk, blkOf (γ N) = some bk → w'.heap[bk]? = w.heap[bk]?) : BlkOk w' own' γ' N' x := by
  cases x with
  | box l =>
    obtain ⟨bk, us, ty, e, h1, ho, h2⟩ := h
    exact ⟨bk, us, ty, hL.trans e, (hb bk (by rw [e]; rfl)).trans h1, ho, (h2.keep hk).gam (fun _ => hg)⟩
  | row e c =>
    rcases h with ⟨h0, A, e⟩ | ⟨bk, o, cap, us, e, hp, hc, h1, h2, h3⟩
    · exact .inl ⟨h0, A, hL.trans e⟩
    · refine .inr ⟨bk, o, cap, us, hL.trans e, hp, hc, (hb bk (by rw [e, blkOf_slice hp])).trans h1, h2, fun k j hk1 hj => ?_⟩
      obtain ⟨u, h4, ho, h5⟩ := h3 k j hk1 hj
      refine ⟨u, h4, ho, ?_⟩
      unfold CellR at h5 ⊢
      cases ha : (c.cell k j).sub with
      | none => rw [ha] at h5; exact (h5.keep hk).gam (fun _ M hM => hg M ⟨k, j, hk1, hj, hM⟩)
      | some z => rw [ha] at h5; simp only at h5 ⊢; rw [h5]; exact (hs _ c k j rfl hk1 hj (by rw [ha]; rfl)).symm
  | mp t m =>
    obtain ⟨r, es, clock, e, h1, h2⟩ := h
    exact ⟨r, es, clock, hL.trans e, (hb r (by rw [e]; rfl)).trans h1, h2⟩

/-- From w to w' blocks that are owned may have changed, and there may be new ones. -/
structure Step (own : Nat → Prop) (w w' : World) : Prop where
  os : w'.os = w.os
  tape : w'.tape = w.tape
  output : w'.output = w.output
  size : w.heap.size ≤ w'.heap.size
  block : ∀ k, k < w.heap.size → ¬ own k → w'.heap[k]? = w.heap[k]?

section
variable {E : Ent0} {w w' : World} {s s' : St} {a a' : Act} {γ γ' : Nm → Value}

theorem Step.same (own : Nat → Prop) (w : World) : Step own w w := ⟨rfl, rfl, rfl, Nat.le_refl _, fun _ _ _ => rfl⟩
theorem Step.of_fr (h : Fr (fun _ => False) w w') (own : Nat → Prop) : Step own w w' := ⟨h.os, h.tape, h.output, h.size, fun k hk _ => h.block k hk id⟩
theorem own_at {N : Nm} {x : Blk} {bk : Nat} (h : s.at N x) (hb : blkOf (γ N) = some bk) : s.own γ bk := ⟨N, x, h, hb⟩

theorem step_keeps {E : Ent0} (hst : Step (s.own γ) w w') (pv : ∀ D x', s'.at D x' → ∀ bk, blkOf (γ' D) = some bk → (w.heap.size ≤ bk ∧ bk < w'.heap.size) ∨ s.own γ bk) : Keeps w w' (E.ow (s.own γ)) (E.ow (s'.own γ')) :=
  Keeps.ow E hst.size hst.block (fun k hk hn ⟨D, x', hD, hb⟩ => (pv D x' hD k hb).elim (fun h => by omega) hn)

/-- A new state that tells the truth. -/
theorem Sim.build (h : Sim E s a w γ) (hst : Step (s.own γ) w w') (hn : a'.tmps.size = s'.n) (hdf : a'.defers = []) (pv : ∀ D x', s'.at D x' → ∀ bk, blkOf (γ' D) = some bk → (w.heap.size ≤ bk ∧ bk < w'.heap.size) ∨ s.own γ bk)
    (inj : ∀ N M x y bk, s'.at N x → s'.at M y → blkOf (γ' N) = some bk → blkOf (γ' M) = some bk → N = M)
    (slots : Keeps w w' (E.ow (s.own γ)) (E.ow (s'.own γ')) → ∀ t, Reps w' (E.ow (s'.own γ')) γ' (s'.slot t) .o [a'.tmps.getD t undef])
    (blks : Keeps w w' (E.ow (s.own γ)) (E.ow (s'.own γ')) → ∀ N x, s'.at N x → BlkOk w' (E.ow (s'.own γ')) γ' N x) (wf : s'.WF) (hd : ∀ L, L < low → s'.lv (rt L) → γ' (rt L) = E.g (rt L)) : Sim E s' a' w' γ' := by
  have hk := step_keeps (E := E) hst pv
  refine ⟨hn, hdf, slots hk, blks hk, fun N x bk hN hb => ?_, inj, wf, hd, ?_⟩
  · rcases pv N x hN bk hb with h1 | ⟨M, y, hM, hb'⟩
    · have := h.fr.size
      exact ⟨h1.2, .inl (by omega)⟩
    · have := h.mine M y bk hM hb'
      exact ⟨Nat.lt_of_lt_of_le this.1 hst.size, this.2⟩
  · refine ⟨hst.os.trans h.fr.os, hst.tape.trans h.fr.tape, hst.output.trans h.fr.output, Nat.le_trans h.fr.size hst.size, fun k hk' hl => (hst.block k (Nat.lt_of_lt_of_le hk' h.fr.size) ?_).trans (h.fr.block k hk' hl)⟩
    rintro ⟨M, y, hM, hb⟩
    rcases (h.mine M y k hM hb).2 with h1 | h1
    · omega
    · exact hl h1

theorem tmps_put {a : Act} {d t : Nat} {v : Value} (hd : d < a.tmps.size) : (a.put (some d) v).tmps.getD t undef = if d = t then v else a.tmps.getD t undef := by
  simp only [Act.put, Array.getD_eq_getD_getElem?, Array.getElem?_setIfInBounds]
  by_cases h : d = t
  · subst h; simp [hd]
  · simp [h]

theorem Sim.put (h : Sim E s a w γ) {d : Nat} {v : Value} {x : AV} (hd : d < s.n) (hx : Reps w (E.ow (s.own γ)) γ x .o [v]) (hl : s.live x) : Sim E (s.put d x) (a.put (some d) v) w γ := by
  have hd' : d < a.tmps.size := by rw [h.size]; exact hd
  refine ⟨?_, h.defers, fun t => ?_, h.blks, h.mine, h.inj, ⟨fun t L hL => ?_, h.wf.blk⟩, h.hd, h.fr⟩
  · simpa [Act.put, St.put] using h.size
  · rw [tmps_put hd', St.slot_put]
    by_cases e : d = t
    · rw [if_pos e, if_pos e]; exact hx
    · rw [if_neg e, if_neg e]; exact h.slots t
  · rw [St.slot_put] at hL
    by_cases e : d = t
    · rw [if_pos e] at hL; exact hl L hL
    · rw [if_neg e] at hL; exact h.wf.slot t L hL
theorem Sim.learn (h : Sim E s a w γ) {d : Nat} {x : AV} (hx : Reps w (E.ow (s.own γ)) γ x .o [a.tmps.getD d undef]) (hl : s.live x) : Sim E (s.put d x) a w γ := by
  refine ⟨h.size, h.defers, fun t => ?_, h.blks, h.mine, h.inj, ⟨fun t L hL => ?_, h.wf.blk⟩, h.hd, h.fr⟩
  · rw [St.slot_put]
    by_cases e : d = t
    · subst e; rw [if_pos rfl]; exact hx
    · rw [if_neg e]; exact h.slots t
  · rw [St.slot_put] at hL
    by_cases e : d = t
    · rw [if_pos e] at hL; exact hl L hL
    · rw [if_neg e] at hL; exact h.wf.slot t L hL

/-- A callee has made memory, and changed nothing. -/
theorem Sim.ext (h : Sim E s a w γ) (hf : Fr (fun _ => False) w w') : Sim E s a w' γ := by
  refine h.build (Step.of_fr hf _) h.size h.defers (fun D x' hD bk hb => .inr ⟨D, x', hD, hb⟩) h.inj (fun hk t => (h.slots t).keep hk)
    (fun hk N x hN => (h.blks N x hN).keep hk rfl (fun _ _ => rfl) (fun _ _ _ _ _ _ _ _ => rfl) (fun bk hb => hf.block bk ((h.blks N x hN).lt hb) id)) h.wf h.hd
theorem Fr.drew (w : World) : Fr (fun _ => False) w { w with drawn := w.drawn + 1 } := ⟨rfl, rfl, rfl, Nat.le_refl _, fun _ _ _ => rfl⟩

/-- A block without slices of one's own in its cells. -/
def Blk.flatB (x : Blk) : Prop := ∀ e c, x = .row e c → ∀ i j, i < c.len → j < c.st → (c.cell i j).sub = none
theorem flat_at {x : Blk} (h : x.flatB) {p : List (Nat × Nat)} {z : Blk} (hz : x.At p z) : p = [] ∧ z = x := by
  cases p with
  | nil => exact ⟨rfl, hz⟩
  | cons q p =>
    obtain ⟨i, j⟩ := q
    obtain ⟨e, c, y, rfl, h1, h2, h3, _⟩ := hz
    rw [h e c rfl i j h1 h2] at h3; cases h3

theorem not_lv {L : Nat} (hL : s.rblk L = none) {N : Nm} (hN : s.lv N) : N.r ≠ L := by
  rintro rfl
  obtain ⟨x, y, h1, _⟩ := hN
  rw [hL] at h1; cases h1
theorem lv_root {N : Nm} (h : s.lv N) : (s.rblk N.r).isSome = true := by
  obtain ⟨x, y, h1, _⟩ := h; rw [h1]; rfl
theorem kid_r (N : Nm) (i j : Nat) : (N.kid i j).r = N.r := rfl

/-- A thing of one's own is made: in a new block, or (an empty slice) in none. -/
theorem Sim.new (h : Sim E s a w γ) {L : Nat} {x : Blk} {g : Value} (hL : s.rblk L = none) (hlow : low ≤ L) (hf : Fr (fun _ => False) w w') (hg : ∀ bk, blkOf g = some bk → w.heap.size ≤ bk ∧ bk < w'.heap.size) (hx0 : x.flatB)
    (hx : ∀ M, x.has M → s.lv M) (hok : Keeps w w' (E.ow (s.own γ)) (E.ow ((s.setB L (some x)).own (upd γ (rt L) g))) → BlkOk w' (E.ow ((s.setB L (some x)).own (upd γ (rt L) g))) (upd γ (rt L) g) (rt L) x) :
    Sim E (s.setB L (some x)) a w' (upd γ (rt L) g) := by
  have ne : ∀ {N : Nm}, s.lv N → N ≠ rt L := fun hN e => not_lv hL hN (by rw [e])
  have cs : ∀ {D x'}, (s.setB L (some x)).at D x' → (D = rt L ∧ x' = x) ∨ (D.r ≠ L ∧ s.at D x') := by
    intro D x' hD
    by_cases e : L = D.r
    · obtain ⟨r, p⟩ := D
      cases e
      obtain ⟨e1, e2⟩ := flat_at hx0 (at_setB_eq.1 hD)
      subst e1; exact .inl ⟨rfl, e2⟩
    · exact .inr ⟨fun e' => e e'.symm, (at_setB_ne e).1 hD⟩
  have lv : ∀ {N : Nm}, s.lv N → (s.setB L (some x)).lv N := fun {N} hN => by
    obtain ⟨y, hy⟩ := hN
    exact ⟨y, (at_setB_ne (fun e => not_lv hL ⟨y, hy⟩ e.symm)).2 hy⟩
  have gm : ∀ {N : Nm}, N.r ≠ L → upd γ (rt L) g N = γ N := fun hN => upd_ne γ g (fun e => hN (by rw [e]))
  refine h.build (Step.of_fr hf _) h.size h.defers (fun D x' hD bk hb => ?_) (fun N M y z bk hN hM hb hc => ?_) (fun hk t => ?_) (fun hk N y hN => ?_) ⟨fun t N hN => lv (h.wf.slot t N hN), fun M y N hM hN => ?_⟩ (fun M hM hl => ?_)
  · rcases cs hD with ⟨rfl, rfl⟩ | ⟨h1, h2⟩
    · rw [upd_at] at hb; exact .inl (hg bk hb)
    · rw [gm h1] at hb; exact .inr ⟨D, x', h2, hb⟩
  · have old : ∀ {D y}, s.at D y → D.r ≠ L → blkOf (upd γ (rt L) g D) = some bk → blkOf g = some bk → False := fun hD h1 hb hgk => by
      rw [gm h1] at hb
      have := (h.mine _ _ bk hD hb).1
      have := hg bk hgk
      omega
    rcases cs hN with ⟨rfl, rfl⟩ | ⟨h1, h2⟩ <;> rcases cs hM with ⟨rfl, rfl⟩ | ⟨h3, h4⟩
    · rfl
    · rw [upd_at] at hb; exact (old h4 h3 hc hb).elim
    · rw [upd_at] at hc; exact (old h2 h1 hb hc).elim
    · rw [gm h1] at hb; rw [gm h3] at hc; exact h.inj N M y z bk h2 h4 hb hc
  · exact ((h.slots t).keep hk).gam (fun _ M hM => upd_ne γ g (ne (h.wf.slot t M hM)))
  · rcases cs hN with ⟨rfl, rfl⟩ | ⟨h1, h2⟩
    · exact hok hk
    · exact (h.blks N y h2).keep hk (gm h1) (fun M hM => upd_ne γ g (ne (h.wf.blk N y M h2 hM))) (fun _ _ _ _ _ _ _ _ => gm h1) (fun bk hb => hf.block bk ((h.blks N y h2).lt hb) id)
  · rcases cs hM with ⟨rfl, rfl⟩ | ⟨h1, h2⟩
    · exact lv (hx N hN)
    · exact lv (h.wf.blk M y N h2 hN)
  · by_cases e : M = L
    · subst e; omega
    · obtain ⟨y, hy⟩ := hl
      rcases cs hy with ⟨e1, _⟩ | ⟨h1, h2⟩
      · cases e1; exact absurd rfl e
      · rw [gm h1]; exact h.hd M hM ⟨y, h2⟩
end

/-! ### A block inside another is changed -/
def Blk.asOwn : Blk → AV
  | .row e (.ints k xs) => .oi e k xs
  | .row e (.tab n st cell) => .ow e n st cell
  | _ => .top
def Blk.nest : Blk → Bool
  | .row _ (.ints _ _) => true
  | .row _ (.tab _ _ _) => true
  | _ => false
theorem asOwn_sub {y : Blk} (h : y.nest = true) : y.asOwn.sub = some y := by
  cases y with
  | row e c => cases c <;> first | rfl | cases h
  | _ => cases h
theorem nest_of_sub {a : AV} {y : Blk} (h : a.sub = some y) : y.nest = true := by
  cases a <;> cases h <;> rfl
def Ct.put (c : Ct) (i j : Nat) (a : AV) : Ct := .tab c.len c.st fun k' j' => bif Nat.beq k' i && Nat.beq j' j then a else c.cell k' j'
theorem put_eq (c : Ct) (i j : Nat) (a : AV) : (c.put i j a).cell i j = a := by simp [Ct.put, Ct.cell]
theorem put_ne (c : Ct) {i j k l : Nat} (a : AV) (h : ¬ (k = i ∧ l = j)) : (c.put i j a).cell k l = c.cell k l := by
  unfold Ct.put Ct.cell
  cases hb : (Nat.beq k i && Nat.beq l j) with
  | false => simp [hb]
  | true => simp only [Bool.and_eq_true] at hb; exact absurd ⟨Nat.eq_of_beq_eq_true hb.1, Nat.eq_of_beq_eq_true hb.2⟩ h
def Blk.upAt : Blk → List (Nat × Nat) → Blk → Blk
  | _, [], y => y
  | .row e c, (i, j) :: p, y => (match (c.cell i j).sub with | some z => .row e (c.put i j (z.upAt p y).asOwn) | none => .row e c)
  | x, _, _ => x
theorem upAt_nest : ∀ {p : List (Nat × Nat)} {x y : Blk}, x.nest = true → y.nest = true → (x.upAt p y).nest = true := by
  intro p x y hx hy
  cases p with
  | nil => cases x <;> exact hy
  | cons q p =>
    obtain ⟨i, j⟩ := q
    cases x with
    | row e c =>
      simp only [Blk.upAt]
      split
      · rfl
      · exact hx
    | _ => exact hx
/-- What lies where, behind a change at p. -/
theorem at_upAt : ∀ {p q : List (Nat × Nat)} {x y y0 z : Blk}, x.At p y0 → (p ≠ [] → y.nest = true) → (x.upAt p y).At q z → (∃ r, q = p ++ r ∧ y.At r z) ∨ ((¬ ∃ r, q = p ++ r) ∧ ∃ z1, x.At q z1 ∧ SameSh z1 z) := by
  intro p
  induction p with
  | nil => intro q x y y0 z h0 hn h; exact .inl ⟨q, rfl, by cases x <;> exact h⟩
  | cons a p ih =>
    obtain ⟨i, j⟩ := a
    rintro q x y y0 z ⟨e, c, x1, rfl, h1, h2, h3, h4⟩ hn h
    have hyn := hn (by simp)
    have hx1 := nest_of_sub h3
    simp only [Blk.upAt, h3] at h
    have hs := asOwn_sub (upAt_nest (p := p) hx1 hyn)
    cases q with
    | nil =>
      cases h
      refine .inr ⟨fun ⟨r, hr⟩ => (by cases hr), .row e c, rfl, c.put i j (x1.upAt p y).asOwn, rfl, rfl, rfl, fun i' j' hi' hj' => ?_⟩
      by_cases hij : i' = i ∧ j' = j
      · obtain ⟨rfl, rfl⟩ := hij
        exact .inr ⟨by rw [h3]; rfl, by rw [put_eq, hs]; rfl⟩
      · exact .inl (put_ne c _ hij)
    | cons b q =>
      obtain ⟨i', j'⟩ := b
      obtain ⟨e', c', x2, he, k1, k2, k3, k4⟩ := h
      cases he
      by_cases hij : i' = i ∧ j' = j
      · obtain ⟨rfl, rfl⟩ := hij
        rw [put_eq, hs] at k3
        cases k3
        rcases ih h4 (fun _ => hyn) k4 with ⟨r, rfl, hr⟩ | ⟨hr, z1, hz1, hz2⟩
        · exact .inl ⟨r, rfl, hr⟩
        · refine .inr ⟨fun ⟨r, e⟩ => hr ⟨r, by cases e; rfl⟩, z1, ⟨e, c, x1, rfl, h1, h2, h3, hz1⟩, hz2⟩
      · rw [put_ne c _ hij] at k3
        refine .inr ⟨fun ⟨r, e⟩ => hij (by cases e; exact ⟨rfl, rfl⟩), z, ⟨e, c, x2, rfl, k1, k2, k3, k4⟩, SameSh.refl z⟩
theorem upAt_at : ∀ {p : List (Nat × Nat)} {x y y0 : Blk}, x.At p y0 → (p ≠ [] → y.nest = true) → (x.upAt p y).At p y := by
  intro p
  induction p with
  | nil => intro x y y0 h hn; cases x <;> rfl
  | cons a p ih =>
    obtain ⟨i, j⟩ := a
    rintro x y y0 ⟨e, c, x1, rfl, h1, h2, h3, h4⟩ hn
    have hyn := hn (by simp)
    simp only [Blk.upAt, h3]
    exact ⟨e, _, _, rfl, h1, h2, by rw [put_eq]; exact asOwn_sub (upAt_nest (nest_of_sub h3) hyn), ih h4 (fun _ => hyn)⟩
theorem upAt_old : ∀ {p q : List (Nat × Nat)} {x y y0 z : Blk}, x.At p y0 → (p ≠ [] → y.nest = true) → x.At q z → (¬ ∃ r, q = p ++ r) → ∃ z', (x.upAt p y).At q z' := by
  intro p
  induction p with
  | nil => intro q x y y0 z h0 hn h hr; exact absurd ⟨q, rfl⟩ hr
  | cons a p ih =>
    obtain ⟨i, j⟩ := a
    rintro q x y y0 z ⟨e, c, x1, rfl, h1, h2, h3, h4⟩ hn h hr
    have hyn := hn (by simp)
    simp only [Blk.upAt, h3]
    cases q with
    | nil => exact ⟨_, rfl⟩
    | cons b q =>
      obtain ⟨i', j'⟩ := b
      obtain ⟨e', c', x2, he, k1, k2, k3, k4⟩ := h
      cases he
      by_cases hij : i' = i ∧ j' = j
      · obtain ⟨rfl, rfl⟩ := hij
        rw [h3] at k3; cases k3
        obtain ⟨z', hz'⟩ := ih (y := y) h4 (fun _ => hyn) k4 (fun ⟨r, e⟩ => hr ⟨r, by rw [e]; rfl⟩)
        exact ⟨z', e, _, _, rfl, h1, h2, by rw [put_eq]; exact asOwn_sub (upAt_nest (nest_of_sub h3) hyn), hz'⟩
      · exact ⟨z, e, _, x2, rfl, k1, k2, by rw [put_ne c _ hij]; exact k3, k4⟩

def St.setN (s : St) (N : Nm) (y : Blk) : St := match s.rblk N.r with | some x => s.setB N.r (some (x.upAt N.p y)) | none => s
section
variable {E : Ent0} {w w' : World} {s s' : St} {a a' : Act} {γ γ' : Nm → Value}
theorem setN_slot (N : Nm) (y : Blk) (t : Nat) : (s.setN N y).slot t = s.slot t := by unfold St.setN; split <;> rfl
theorem setN_n (N : Nm) (y : Blk) : (s.setN N y).n = s.n := by unfold St.setN; split <;> rfl
/-- What lies where, behind a change of N. -/
theorem at_setN {N D : Nm} {y y0 z : Blk} (h0 : s.at N y0) (hn : N.p ≠ [] → y.nest = true) (h : (s.setN N y).at D z) : (∃ r, D = ⟨N.r, N.p ++ r⟩ ∧ y.At r z) ∨ ((¬ ∃ r, D = ⟨N.r, N.p ++ r⟩) ∧ ∃ z1, s.at D z1 ∧ SameSh z1 z) := by
  obtain ⟨x, h1, h2⟩ := h0
  unfold St.setN at h
  rw [h1] at h
  by_cases e : N.r = D.r
  · obtain ⟨r, p⟩ := D
    simp only at e
    subst e
    rcases at_upAt h2 hn (at_setB_eq.1 h) with ⟨r, rfl, hr⟩ | ⟨hr, z1, hz1, hz2⟩
    · exact .inl ⟨r, rfl, hr⟩
    · exact .inr ⟨fun ⟨r, e⟩ => hr ⟨r, by cases e; rfl⟩, z1, ⟨x, h1, hz1⟩, hz2⟩
  · exact .inr ⟨fun ⟨r, e'⟩ => e (by rw [e']), z, (at_setB_ne e).1 h, SameSh.refl z⟩
theorem setN_at {N : Nm} {y y0 : Blk} (h0 : s.at N y0) (hn : N.p ≠ [] → y.nest = true) : (s.setN N y).at N y := by
  obtain ⟨x, h1, h2⟩ := h0
  unfold St.setN
  rw [h1]
  exact at_setB_eq.2 (upAt_at h2 hn)
theorem setN_sub {N : Nm} {y y0 z : Blk} {r : List (Nat × Nat)} (h0 : s.at N y0) (hn : N.p ≠ [] → y.nest = true) (hz : y.At r z) : (s.setN N y).at ⟨N.r, N.p ++ r⟩ z := by
  obtain ⟨x, h1, h2⟩ := setN_at h0 hn
  exact ⟨x, h1, at_append.2 ⟨y, h2, hz⟩⟩
theorem setN_old {N D : Nm} {y y0 z : Blk} (h0 : s.at N y0) (hn : N.p ≠ [] → y.nest = true) (h : s.at D z) (hD : ¬ ∃ r, D = ⟨N.r, N.p ++ r⟩) : (s.setN N y).lv D := by
  obtain ⟨x, h1, h2⟩ := h0
  unfold St.setN
  rw [h1]
  by_cases e : N.r = D.r
  · obtain ⟨r, p⟩ := D
    simp only at e
    subst e
    obtain ⟨x', k1, k2⟩ := h
    rw [h1] at k1; cases k1
    obtain ⟨z', hz'⟩ := upAt_old (y := y) h2 hn k2 (fun ⟨r, e⟩ => hD ⟨r, by simp only at e; rw [e]⟩)
    exact ⟨z', at_setB_eq.2 hz'⟩
  · exact ⟨z, (at_setB_ne e).2 h⟩
theorem at_below {N : Nm} {y0 z : Blk} {r : List (Nat × Nat)} (h0 : s.at N y0) : s.at ⟨N.r, N.p ++ r⟩ z ↔ y0.At r z := by
  obtain ⟨x, h1, h2⟩ := h0
  constructor
  · rintro ⟨x', k1, k2⟩
    rw [h1] at k1; cases k1
    obtain ⟨y, k3, k4⟩ := at_append.1 k2
    cases at_fun h2 k3
    exact k4
  · intro h; exact ⟨x, h1, at_append.2 ⟨y0, h2, h⟩⟩

/-- A block of one's own is written; the slices of one's own in its cells stay. -/
theorem Sim.write (h : Sim E s a w γ) {N : Nm} {bk : Nat} {y y0 : Blk} (hN : s.at N y0) (hbk : blkOf (γ N) = some bk) (hnest : N.p ≠ [] → y.nest = true) (hos : w'.os = w.os) (htape : w'.tape = w.tape) (hout : w'.output = w.output)
    (hs : w'.heap.size = w.heap.size) (hb : ∀ k, k ≠ bk → w'.heap[k]? = w.heap[k]?) (hx : ∀ M, y.has M → s.lv M)
    (hsub1 : ∀ r z, r ≠ [] → y.At r z → y0.At r z) (hsub2 : ∀ r z, r ≠ [] → y0.At r z → y.At r z)
    (hok : Keeps w w' (E.ow (s.own γ)) (E.ow (s.own γ)) → BlkOk w' (E.ow (s.own γ)) γ N y) : Sim E (s.setN N y) a w' γ := by
  have ho : s.own γ bk := ⟨N, y0, hN, hbk⟩
  have cs : ∀ {D z}, (s.setN N y).at D z → (D = N ∧ z = y) ∨ (D ≠ N ∧ ∃ z1, s.at D z1 ∧ SameSh z1 z) := by
    intro D z hD
    rcases at_setN hN hnest hD with ⟨r, rfl, hr⟩ | ⟨hr, z1, h1, h2⟩
    · cases r with
      | nil => cases hr; exact .inl ⟨by simp, rfl⟩
      | cons q r =>
        refine .inr ⟨fun e => ?_, z, (at_below hN).2 (hsub1 _ _ (by simp) hr), SameSh.refl z⟩
        have := congrArg Nm.p e
        simp at this
    · exact .inr ⟨fun e => hr ⟨[], by rw [e]; simp⟩, z1, h1, h2⟩
  have lv : ∀ {D}, s.lv D → (s.setN N y).lv D := by
    rintro D ⟨z, hz⟩
    by_cases e : ∃ r, D = ⟨N.r, N.p ++ r⟩
    · obtain ⟨r, rfl⟩ := e
      have hz' := (at_below hN).1 hz
      cases r with
      | nil => exact ⟨y, by simpa using setN_at hN hnest⟩
      | cons q r => exact ⟨z, setN_sub hN hnest (hsub2 _ _ (by simp) hz')⟩
    · exact setN_old hN hnest hz e
  have own' : (s.setN N y).own γ = s.own γ := by
    funext k
    refine propext ⟨?_, ?_⟩
    · rintro ⟨D, z, hD, hbD⟩
      rcases cs hD with ⟨rfl, rfl⟩ | ⟨_, z1, h1, _⟩
      · exact ⟨D, y0, hN, hbD⟩
      · exact ⟨D, z1, h1, hbD⟩
    · rintro ⟨D, z, hD, hbD⟩
      obtain ⟨z', hz'⟩ := lv ⟨z, hD⟩
      exact ⟨D, z', hz', hbD⟩
  have hin : ∀ {D z}, (s.setN N y).at D z → ∃ z1, s.at D z1 := by
    intro D z hD
    rcases cs hD with ⟨rfl, rfl⟩ | ⟨_, z1, h1, _⟩
    · exact ⟨_, hN⟩
    · exact ⟨_, h1⟩
  refine h.build ⟨hos, htape, hout, Nat.le_of_eq hs.symm, fun k _ hn => hb k (fun e => hn (e ▸ ho))⟩ (by rw [setN_n]; exact h.size) h.defers (fun D x' hD bk' hb' => ?_) (fun D M u v bk' hD hM hb1 hb2 => ?_) (fun hk t => ?_) (fun hk D z hD => ?_) ⟨fun t M hM => ?_, fun M z D hM hD => ?_⟩ (fun L hL hl => ?_)
  · obtain ⟨z1, h1⟩ := hin hD
    exact .inr ⟨D, z1, h1, hb'⟩
  · obtain ⟨z1, h1⟩ := hin hD
    obtain ⟨z2, h2⟩ := hin hM
    exact h.inj D M z1 z2 bk' h1 h2 hb1 hb2
  · rw [setN_slot]; exact (h.slots t).keep hk
  · rcases cs hD with ⟨rfl, rfl⟩ | ⟨hne, z1, h1, h2⟩
    · rw [own']; rw [own'] at hk; exact hok hk
    · refine BlkOk.same ?_ h2
      exact (h.blks D z1 h1).keep hk rfl (fun _ _ => rfl) (fun _ _ _ _ _ _ _ _ => rfl) (fun b2 hb2 => hb b2 (fun e => hne (h.inj D N z1 y0 bk h1 hN (e ▸ hb2) hbk)))
  · rw [setN_slot] at hM; exact lv (h.wf.slot t M hM)
  · rcases cs hM with ⟨rfl, rfl⟩ | ⟨_, z1, h1, h2⟩
    · exact lv (hx D hD)
    · exact lv (h.wf.blk M z1 D h1 (h2.has hD))
  · obtain ⟨z, hz⟩ := hl
    obtain ⟨z1, h1⟩ := hin hz
    exact h.hd L hL ⟨z1, h1⟩
end
end Go.Proofs.Ytbncmiglhjfcdaa
