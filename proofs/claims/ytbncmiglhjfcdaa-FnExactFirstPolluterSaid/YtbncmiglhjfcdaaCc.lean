/-
  How a state stays true: names forgotten; a slice that lies elsewhere now; a slice given to a cell; names changed.
-/
import Derived.Test.YtbncmiglhjfcdaaCb
namespace Go.Proofs.Ytbncmiglhjfcdaa
open Go.RowKit
set_option linter.unusedVariables false

/-! ### names forgotten -/
def AV.kill (Q : Nm → Bool) : AV → AV
  | .cons a l => .cons (a.kill Q) (l.kill Q)
  | .agg l => .agg (l.kill Q)
  | .tup l => .tup (l.kill Q)
  | .fn f l => .fn f (l.kill Q)
  | .op N j => bif Q N then .top else .op N j
  | .om N => bif Q N then .top else .om N
  | .os N => bif Q N then .top else .os N
  | .oe N st k j => bif Q N then .top else .oe N st k j
  | .ow e n st cell => .ow e n st fun k j => (cell k j).kill Q
  | a => a
def Ct.kill (Q : Nm → Bool) : Ct → Ct
  | .tab n st cell => .tab n st fun k j => (cell k j).kill Q
  | c => c
def Blk.kill (Q : Nm → Bool) : Blk → Blk
  | .box l => .box (l.kill Q)
  | .row e c => .row e (c.kill Q)
  | x => x
def St.kill (s : St) (Q : Nm → Bool) : St := { s with slots := s.slots.map fun p => (p.1, p.2.kill Q), store := s.store.map fun p => (p.1, p.2.map (Blk.kill Q)) }

section
variable {E : Ent0} {w w' : World} {s : St} {act : Act} {γ : Nm → Value} {Q : Nm → Bool}
theorem slot_kill (s : St) (t : Nat) : (s.kill Q).slot t = (s.slot t).kill Q := by
  unfold St.slot St.kill
  induction s.slots with
  | nil => rfl
  | cons p l ih =>
    simp only [List.map_cons, lks]
    cases Nat.beq p.1 t <;> simp [ih]
theorem rblk_kill (s : St) (L : Nat) : (s.kill Q).rblk L = (s.rblk L).map (Blk.kill Q) := by
  unfold St.rblk St.kill
  induction s.store with
  | nil => rfl
  | cons p l ih =>
    simp only [List.map_cons, lkb]
    cases Nat.beq p.1 L <;> simp [ih]
theorem has_kill {L : Nm} : ∀ {a : AV}, (a.kill Q).has L → a.has L ∧ Q L = false := by
  intro a
  induction a with
  | cons a l iha ihl => rintro (h | h); exact ⟨.inl (iha h).1, (iha h).2⟩; exact ⟨.inr (ihl h).1, (ihl h).2⟩
  | agg l ih => exact ih
  | tup l ih => exact ih
  | fn f l ih => exact ih
  | op M j =>
    intro h
    unfold AV.kill at h
    cases e : Q M with
    | true => rw [e] at h; exact h.elim
    | false => rw [e] at h; exact ⟨h, by rw [← (show M = L from h)]; exact e⟩
  | om M =>
    intro h
    unfold AV.kill at h
    cases e : Q M with
    | true => rw [e] at h; exact h.elim
    | false => rw [e] at h; exact ⟨h, by rw [← (show M = L from h)]; exact e⟩
  | os M =>
    intro h
    unfold AV.kill at h
    cases e : Q M with
    | true => rw [e] at h; exact h.elim
    | false => rw [e] at h; exact ⟨h, by rw [← (show M = L from h)]; exact e⟩
  | oe M st k j =>
    intro h
    unfold AV.kill at h
    cases e : Q M with
    | true => rw [e] at h; exact h.elim
    | false => rw [e] at h; exact ⟨h, by rw [← (show M = L from h)]; exact e⟩
  | _ => intro h; exact h.elim
theorem Reps.kill {own : Bool → Nat → Prop} : ∀ {a : AV} {ro : Md} {vs : List Value}, Reps w own γ a ro vs → Reps w own γ (a.kill Q) ro vs := by
  intro a
  induction a with
  | cons a l iha ihl => rintro ro vs ⟨v, us, e, h1, h2⟩; exact ⟨v, us, e, iha h1, ihl h2⟩
  | agg l ih => rintro ro vs ⟨us, e, h1⟩; exact ⟨us, e, ih h1⟩
  | tup l ih => rintro ro vs ⟨us, e, h1⟩; exact ⟨us, e, ih h1⟩
  | fn f l ih => rintro ro vs ⟨us, e, h1⟩; exact ⟨us, e, ih h1⟩
  | op M j =>
    intro ro vs h
    unfold AV.kill
    cases Q M
    · exact h
    · obtain ⟨_, rfl, _⟩ := h; exact ⟨_, rfl⟩
  | om M =>
    intro ro vs h
    unfold AV.kill
    cases Q M
    · exact h
    · obtain ⟨_, rfl⟩ := h; exact ⟨_, rfl⟩
  | os M =>
    intro ro vs h
    unfold AV.kill
    cases Q M
    · exact h
    · obtain ⟨_, rfl⟩ := h; exact ⟨_, rfl⟩
  | oe M st k j =>
    intro ro vs h
    unfold AV.kill
    cases Q M
    · exact h
    · obtain ⟨_, rfl, _⟩ := h; exact ⟨_, rfl⟩
  | _ => intro ro vs h; exact h
theorem Ct.kill_len (c : Ct) : (c.kill Q).len = c.len := by cases c <;> rfl
theorem Ct.kill_st (c : Ct) : (c.kill Q).st = c.st := by cases c <;> rfl
theorem Ct.kill_cell (c : Ct) (k j : Nat) : (c.kill Q).cell k j = (c.cell k j).kill Q := by cases c <;> rfl
theorem sub_kill (a : AV) : (a.kill Q).sub = a.sub.map (Blk.kill Q) := by
  cases a <;> first | rfl | (simp only [AV.kill]; cases Q _ <;> rfl)
theorem hasB_kill {L : Nm} {x : Blk} (h : (x.kill Q).has L) : x.has L ∧ Q L = false := by
  cases x with
  | box l => exact has_kill h
  | row e c =>
    obtain ⟨k, j, hk, hj, h⟩ := h
    rw [Ct.kill_cell] at h
    rw [Ct.kill_len] at hk
    rw [Ct.kill_st] at hj
    exact ⟨⟨k, j, hk, hj, (has_kill h).1⟩, (has_kill h).2⟩
  | mp t m => exact h.elim
theorem CellR.kill {own : Bool → Nat → Prop} {N : Nm} {i j : Nat} {a : AV} {u : Value} (h : CellR w own γ N i j a u) : CellR w own γ N i j (a.kill Q) u := by
  unfold CellR at h ⊢
  rw [sub_kill]
  cases ha : a.sub with
  | none => rw [ha] at h; exact Reps.kill h
  | some z => rw [ha] at h; exact h
theorem BlkOk.kill {own : Bool → Nat → Prop} {N : Nm} {x : Blk} (h : BlkOk w own γ N x) : BlkOk w own γ N (x.kill Q) := by
  cases x with
  | box l => obtain ⟨bk, us, ty, e, h1, ho, h2⟩ := h; exact ⟨bk, us, ty, e, h1, ho, h2.kill⟩
  | row e c =>
    rcases h with ⟨h0, A, e⟩ | ⟨bk, o, cap, us, e, hp, hc, h1, h2, h3⟩
    · exact .inl ⟨by rw [Ct.kill_len]; exact h0, A, e⟩
    · refine .inr ⟨bk, o, cap, us, by rw [Ct.kill_len]; exact e, hp, by rw [Ct.kill_len]; exact hc, h1, by rw [Ct.kill_st]; exact h2, fun k j hk hj => ?_⟩
      rw [Ct.kill_len] at hk
      rw [Ct.kill_st] at hj ⊢
      obtain ⟨u, h4, ho, h5⟩ := h3 k j hk hj
      exact ⟨u, h4, ho, by rw [Ct.kill_cell]; exact h5.kill⟩
  | mp t m => exact h
theorem at_kill : ∀ {p : List (Nat × Nat)} {x z : Blk}, (x.kill Q).At p z ↔ ∃ y, x.At p y ∧ z = y.kill Q := by
  intro p
  induction p with
  | nil => intro x z; exact ⟨fun h => ⟨x, rfl, h⟩, fun ⟨y, h1, h2⟩ => by cases h1; exact h2⟩
  | cons q p ih =>
    obtain ⟨i, j⟩ := q
    intro x z
    constructor
    · rintro ⟨e, c, y, he, h1, h2, h3, h4⟩
      cases x with
      | row e' c' =>
        cases he
        rw [Ct.kill_cell, sub_kill] at h3
        cases hs : (c'.cell i j).sub with
        | none => rw [hs] at h3; cases h3
        | some x1 =>
          rw [hs] at h3; cases h3
          obtain ⟨y', h5, h6⟩ := ih.1 h4
          exact ⟨y', ⟨_, c', x1, rfl, by rw [Ct.kill_len] at h1; exact h1, by rw [Ct.kill_st] at h2; exact h2, hs, h5⟩, h6⟩
      | box l => cases he
      | mp t m => cases he
    · rintro ⟨y, ⟨e, c, x1, rfl, h1, h2, h3, h4⟩, rfl⟩
      exact ⟨e, c.kill Q, x1.kill Q, rfl, by rw [Ct.kill_len]; exact h1, by rw [Ct.kill_st]; exact h2, by rw [Ct.kill_cell, sub_kill, h3]; rfl, ih.2 ⟨y, h4, rfl⟩⟩
theorem of_kill {N : Nm} {z : Blk} : (s.kill Q).at N z ↔ ∃ y, s.at N y ∧ z = y.kill Q := by
  unfold St.at AtL
  constructor
  · rintro ⟨x, h1, h2⟩
    rw [rblk_kill] at h1
    cases hb : s.rblk N.r with
    | none => rw [hb] at h1; cases h1
    | some x0 =>
      rw [hb] at h1; cases h1
      obtain ⟨y, h3, h4⟩ := at_kill.1 h2
      exact ⟨y, ⟨x0, rfl, h3⟩, h4⟩
  · rintro ⟨y, ⟨x, h1, h2⟩, rfl⟩
    exact ⟨x.kill Q, by rw [rblk_kill, h1]; rfl, at_kill.2 ⟨y, h2, rfl⟩⟩
theorem lv_kill {N : Nm} : (s.kill Q).lv N ↔ s.lv N := ⟨fun ⟨z, hz⟩ => by obtain ⟨y, hy, _⟩ := of_kill.1 hz; exact ⟨y, hy⟩, fun ⟨y, hy⟩ => ⟨_, of_kill.2 ⟨y, hy, rfl⟩⟩⟩
theorem own_kill : (s.kill Q).own γ = s.own γ := by
  funext k
  refine propext ⟨?_, ?_⟩
  · rintro ⟨N, x, h1, h2⟩
    obtain ⟨y, hy, _⟩ := of_kill.1 h1
    exact ⟨N, y, hy, h2⟩
  · rintro ⟨N, x, h1, h2⟩
    exact ⟨N, _, of_kill.2 ⟨x, h1, rfl⟩, h2⟩
theorem Sim.kill (h : Sim E s act w γ) (Q : Nm → Bool) : Sim E (s.kill Q) act w γ := by
  refine ⟨h.size, h.defers, fun t => ?_, fun N x hN => ?_, fun N x bk hN hb => ?_, fun N M x y bk hN hM hb hc => ?_, ⟨fun t N hN => ?_, fun M x N hM hN => ?_⟩, fun L hL hl => h.hd L hL (lv_kill.1 hl), h.fr⟩
  · rw [own_kill, slot_kill]; exact (h.slots t).kill
  · obtain ⟨y, h1, rfl⟩ := of_kill.1 hN
    rw [own_kill]; exact (h.blks N y h1).kill
  · obtain ⟨y, h1, rfl⟩ := of_kill.1 hN
    exact h.mine N y bk h1 hb
  · obtain ⟨y', h1, rfl⟩ := of_kill.1 hN
    obtain ⟨z', h2, rfl⟩ := of_kill.1 hM
    exact h.inj N M y' z' bk h1 h2 hb hc
  · rw [slot_kill] at hN
    exact lv_kill.2 (h.wf.slot t N (has_kill hN).1)
  · obtain ⟨y, h1, rfl⟩ := of_kill.1 hM
    exact lv_kill.2 (h.wf.blk M y N h1 (hasB_kill hN).1)

def atR (R : Nat) (N : Nm) : Bool := Nat.beq N.r R
theorem atR_ne {R : Nat} {N : Nm} (h : atR R N = false) : N.r ≠ R := fun e => by unfold atR at h; rw [e, Nat.beq_refl] at h; cases h
/-- Nothing speaks of names under R. -/
structure Quiet (s : St) (R : Nat) : Prop where
  slot : ∀ t N, (s.slot t).has N → N.r ≠ R
  blk : ∀ M y N, s.at M y → y.has N → N.r ≠ R
theorem quiet_kill (s : St) (R : Nat) : Quiet (s.kill (atR R)) R :=
  ⟨fun t N hN => by rw [slot_kill] at hN; exact atR_ne (has_kill hN).2, fun M y N hM hN => by obtain ⟨z, _, rfl⟩ := of_kill.1 hM; exact atR_ne (hasB_kill hN).2⟩
theorem quiet_none (h : Sim E s act w γ) {R : Nat} (hR : s.rblk R = none) : Quiet s R :=
  ⟨fun t N hN => not_lv hR (h.wf.slot t N hN), fun M y N hM hN => not_lv hR (h.wf.blk M y N hM hN)⟩

/-- A thing of one's own (R) is replaced, which nothing else speaks of: it may lie in another block now. The slices of one's own in its cells stay where they are. -/
theorem Sim.replace (h : Sim E s act w γ) {R : Nat} {x : Blk} {g : Value} (hlow : low ≤ R) (hq : Quiet s R) (hos : w'.os = w.os) (htape : w'.tape = w.tape) (hout : w'.output = w.output) (hs : w.heap.size ≤ w'.heap.size)
    (hb : ∀ k, k < w.heap.size → (s.lv (rt R) → blkOf (γ (rt R)) ≠ some k) → w'.heap[k]? = w.heap[k]?)
    (hg : ∀ bk, blkOf g = some bk → (w.heap.size ≤ bk ∧ bk < w'.heap.size) ∨ (s.lv (rt R) ∧ blkOf (γ (rt R)) = some bk))
    (hx : ∀ M, x.has M → M.r ≠ R ∧ s.lv M) (hsub : ∀ p z, p ≠ [] → x.At p z → s.at ⟨R, p⟩ z)
    (hok : Keeps w w' (E.ow (s.own γ)) (E.ow ((s.setB R (some x)).own (upd γ (rt R) g))) → BlkOk w' (E.ow ((s.setB R (some x)).own (upd γ (rt R) g))) (upd γ (rt R) g) (rt R) x) : Sim E (s.setB R (some x)) act w' (upd γ (rt R) g) := by
  have cs : ∀ {D z}, (s.setB R (some x)).at D z → (D = rt R ∧ z = x) ∨ (D ≠ rt R ∧ s.at D z) := by
    intro D z hD
    by_cases e : R = D.r
    · obtain ⟨r, p⟩ := D
      cases e
      have h1 := at_setB_eq.1 hD
      cases p with
      | nil => cases h1; exact .inl ⟨rfl, rfl⟩
      | cons q p => exact .inr ⟨fun e => (by cases e), hsub _ _ (by simp) h1⟩
    · exact .inr ⟨fun e' => e (by rw [e']), (at_setB_ne e).1 hD⟩
  have gm : ∀ {N : Nm}, N ≠ rt R → upd γ (rt R) g N = γ N := fun hN => upd_ne γ g hN
  have lv : ∀ {N : Nm}, N.r ≠ R → s.lv N → (s.setB R (some x)).lv N := fun hN ⟨y, hy⟩ => ⟨y, (at_setB_ne (Ne.symm hN)).2 hy⟩
  have other : ∀ M y bk, s.at M y → M ≠ rt R → blkOf (γ M) = some bk → w'.heap[bk]? = w.heap[bk]? := fun M y bk hM e hbk =>
    hb bk (h.mine M y bk hM hbk).1 (fun ⟨z, hz⟩ h2 => e (h.inj M (rt R) y z bk hM hz hbk h2))
  refine h.build (s' := s.setB R (some x)) (γ' := upd γ (rt R) g) ⟨hos, htape, hout, hs, fun k hk hn => hb k hk (fun ⟨z, hz⟩ h2 => hn ⟨_, z, hz, h2⟩)⟩ h.size h.defers (fun D z hD bk hbk => ?_) (fun D M y z bk hD hM hbk hc => ?_) (fun hk t => ?_) (fun hk D z hD => ?_) ⟨fun t M hM => ?_, fun M y N hM hN => ?_⟩ (fun L hL hl => ?_)
  · rcases cs hD with ⟨rfl, rfl⟩ | ⟨h1, h2⟩
    · rw [upd_at] at hbk
      rcases hg bk hbk with h3 | ⟨⟨z', hz'⟩, h3⟩
      · exact .inl h3
      · exact .inr ⟨_, z', hz', h3⟩
    · rw [gm h1] at hbk; exact .inr ⟨D, z, h2, hbk⟩
  · have one : ∀ {D y}, s.at D y → D ≠ rt R → blkOf (upd γ (rt R) g D) = some bk → blkOf g = some bk → False := fun {D y} hD e hbk hgk => by
      rw [gm e] at hbk
      rcases hg bk hgk with h1 | ⟨⟨z', hz'⟩, h3⟩
      · have := (h.mine D y bk hD hbk).1; omega
      · exact e (h.inj D (rt R) y z' bk hD hz' hbk h3)
    rcases cs hD with ⟨rfl, rfl⟩ | ⟨h1, h2⟩ <;> rcases cs hM with ⟨rfl, rfl⟩ | ⟨h3, h4⟩
    · rfl
    · rw [upd_at] at hbk; exact (one h4 h3 hc hbk).elim
    · rw [upd_at] at hc; exact (one h2 h1 hbk hc).elim
    · rw [gm h1] at hbk; rw [gm h3] at hc; exact h.inj D M y z bk h2 h4 hbk hc
  · exact ((h.slots t).keep hk).gam (fun _ M hM => gm (fun e => hq.slot t M hM (by rw [e])))
  · rcases cs hD with ⟨rfl, rfl⟩ | ⟨h1, h2⟩
    · exact hok hk
    · exact (h.blks D z h2).keep hk (gm h1) (fun M hM => gm (fun e => hq.blk D z M h2 hM (by rw [e]))) (fun _ _ i j _ _ _ _ => gm (fun e => by have := congrArg Nm.p e; simp [Nm.kid] at this)) (fun bk hbk => other D z bk h2 h1 hbk)
  · exact lv (hq.slot t M hM) (h.wf.slot t M hM)
  · rcases cs hM with ⟨rfl, rfl⟩ | ⟨h1, h2⟩
    · exact lv (hx N hN).1 (hx N hN).2
    · exact lv (hq.blk M y N h2 hN) (h.wf.blk M y N h2 hN)
  · have e : rt L ≠ rt R := fun e => by have := congrArg Nm.r e; simp only at this; omega
    obtain ⟨z, hz⟩ := hl
    rcases cs hz with ⟨h1, _⟩ | ⟨_, h2⟩
    · exact absurd h1 e
    · rw [gm e]; exact h.hd L hL ⟨z, h2⟩

/-! ### a slice given to a cell -/
def after : List (Nat × Nat) → List (Nat × Nat) → Option (List (Nat × Nat))
  | [], q => some q
  | a :: p, b :: q => if a = b then after p q else none
  | _ :: _, [] => none
theorem after_some : ∀ {p q r : List (Nat × Nat)}, after p q = some r ↔ q = p ++ r
  | [], q, r => by simp [after]
  | a :: p, [], r => by simp [after]
  | a :: p, b :: q, r => by
    simp only [after]
    by_cases e : a = b
    · subst e; simp [after_some]
    · rw [if_neg e]
      constructor
      · intro h; cases h
      · intro h; exact absurd (List.cons.inj h).1.symm e
def mvG (N : Nm) (i j R : Nat) (γ : Nm → Value) (D : Nm) : Value :=
  if D.r = N.r then (match after (N.p ++ [(i, j)]) D.p with | some r => γ ⟨R, r⟩ | none => γ D) else γ D
theorem mvG_in (N : Nm) (i j R : Nat) (γ : Nm → Value) (r : List (Nat × Nat)) : mvG N i j R γ ⟨N.r, N.p ++ (i, j) :: r⟩ = γ ⟨R, r⟩ := by
  unfold mvG
  have : after (N.p ++ [(i, j)]) (N.p ++ (i, j) :: r) = some r := after_some.2 (by simp)
  simp only [this, if_true]
theorem mvG_out {N : Nm} {i j R : Nat} {γ : Nm → Value} {D : Nm} (h : ¬ ∃ r, D = ⟨N.r, N.p ++ (i, j) :: r⟩) : mvG N i j R γ D = γ D := by
  unfold mvG
  by_cases e : D.r = N.r
  · rw [if_pos e]
    cases ha : after (N.p ++ [(i, j)]) D.p with
    | none => rfl
    | some r =>
      exact absurd ⟨r, by have := after_some.1 ha; obtain ⟨dr, dp⟩ := D; simp only at e this ⊢; rw [e, this]; simp⟩ h
  · rw [if_neg e]
/-- The slice R, of which the cell i, j of N (a row) speaks, is given to that cell. -/
def St.mv (s : St) (N : Nm) (i j R : Nat) : St :=
  match s.blk N, s.rblk R with
  | some (.row e c), some y => ((s.kill (atR R)).setB R none).setN N (.row e ((c.kill (atR R)).put i j (y.kill (atR R)).asOwn))
  | _, _ => s
theorem at_setNone {L : Nat} {N : Nm} {x : Blk} : (s.setB L none).at N x ↔ N.r ≠ L ∧ s.at N x := by
  by_cases e : L = N.r
  · unfold St.at AtL
    rw [St.rblk_setB, if_pos e]
    exact ⟨fun ⟨_, h, _⟩ => (by cases h), fun h => absurd e.symm h.1⟩
  · rw [at_setB_ne e]; exact ⟨fun h => ⟨fun e' => e e'.symm, h⟩, fun h => h.2⟩
theorem Sim.mv (h : Sim E s act w γ) {N : Nm} {e : TypeId} {c : Ct} {i j R : Nat} {y : Blk} (hN : s.at N (.row e c)) (hi : i < c.len) (hj : j < c.st) (hc : c.cell i j = .os (rt R)) (hR : s.rblk R = some y) (hy : y.nest = true) (hne : N.r ≠ R) :
    ∃ γ', Sim E (s.mv N i j R) act w γ' := by
  have hRat : s.at (rt R) y := at_root.2 hR
  refine ⟨mvG N i j R γ, ?_⟩
  unfold St.mv
  rw [St.at_blk hN, hR]
  simp only
  have hk0 := h.kill (atR R)
  have q0 := quiet_kill s R
  -- the state without R
  have hN1 : ((s.kill (atR R)).setB R none).at N (.row e (c.kill (atR R))) := at_setNone.2 ⟨hne, of_kill.2 ⟨_, hN, rfl⟩⟩
  have hnest : (y.kill (atR R)).nest = true := by
    cases y with
    | row e c => cases c <;> first | rfl | cases hy
    | _ => cases hy
  have hcs : ((c.kill (atR R)).cell i j).sub = none := by rw [Ct.kill_cell, hc]; simp [AV.kill, AV.sub, atR]
  have hnp : N.p ≠ [] → (Blk.row e ((c.kill (atR R)).put i j (y.kill (atR R)).asOwn)).nest = true := fun _ => rfl
  -- what lies where
  have cs : ∀ {D z}, (((s.kill (atR R)).setB R none).setN N (.row e ((c.kill (atR R)).put i j (y.kill (atR R)).asOwn))).at D z →
      (D = N ∧ z = .row e ((c.kill (atR R)).put i j (y.kill (atR R)).asOwn)) ∨ (∃ r z0, D = ⟨N.r, N.p ++ (i, j) :: r⟩ ∧ s.at ⟨R, r⟩ z0 ∧ z = z0.kill (atR R)) ∨
      (D ≠ N ∧ (¬ ∃ r, D = ⟨N.r, N.p ++ (i, j) :: r⟩) ∧ D.r ≠ R ∧ ∃ z1, s.at D z1 ∧ SameSh (z1.kill (atR R)) z) := by
    intro D z hD
    rcases at_setN hN1 hnp hD with ⟨r, rfl, hr⟩ | ⟨hr, z1, h1, h2⟩
    · cases r with
      | nil => cases hr; exact .inl ⟨by simp, rfl⟩
      | cons q r =>
        obtain ⟨i', j'⟩ := q
        obtain ⟨e', c', y', he, k1, k2, k3, k4⟩ := hr
        cases he
        by_cases hij : i' = i ∧ j' = j
        · obtain ⟨rfl, rfl⟩ := hij
          rw [put_eq, asOwn_sub hnest] at k3
          cases k3
          obtain ⟨z0, h5, h6⟩ := at_kill.1 k4
          exact .inr (.inl ⟨r, z0, rfl, ⟨y, hR, h5⟩, h6⟩)
        · rw [put_ne _ _ hij] at k3
          refine .inr (.inr ⟨fun e1 => ?_, fun ⟨r', e1⟩ => ?_, hne, ?_⟩)
          · have := congrArg Nm.p e1
            simp at this
          · have := congrArg Nm.p e1
            simp at this
            exact hij ⟨this.1.1, this.1.2⟩
          · have h5 : (s.kill (atR R)).at ⟨N.r, N.p ++ (i', j') :: r⟩ z := (at_below (of_kill.2 ⟨_, hN, rfl⟩)).2 ⟨_, c.kill (atR R), y', rfl, k1, k2, k3, k4⟩
            obtain ⟨z0, h6, h7⟩ := of_kill.1 h5
            exact ⟨z0, h6, by rw [h7]; exact SameSh.refl _⟩
    · obtain ⟨h3, h4⟩ := at_setNone.1 h1
      obtain ⟨z0, h5, rfl⟩ := of_kill.1 h4
      exact .inr (.inr ⟨fun e1 => hr ⟨[], by rw [e1]; simp⟩, fun ⟨r, e1⟩ => hr ⟨_, e1⟩, h3, z0, h5, h2⟩)
  have lv : ∀ {D}, s.lv D → D.r ≠ R → (¬ ∃ r, D = ⟨N.r, N.p ++ (i, j) :: r⟩) → (((s.kill (atR R)).setB R none).setN N (.row e ((c.kill (atR R)).put i j (y.kill (atR R)).asOwn))).lv D := by
    rintro D ⟨z, hz⟩ hD1 hD2
    have hz1 : ((s.kill (atR R)).setB R none).at D (z.kill (atR R)) := at_setNone.2 ⟨hD1, of_kill.2 ⟨z, hz, rfl⟩⟩
    by_cases e1 : ∃ r, D = ⟨N.r, N.p ++ r⟩
    · obtain ⟨r, rfl⟩ := e1
      cases r with
      | nil => exact ⟨_, by simpa using setN_at hN1 hnp⟩
      | cons q r =>
        obtain ⟨i', j'⟩ := q
        have hz2 := (at_below hN1).1 hz1
        obtain ⟨e', c', y', he, k1, k2, k3, k4⟩ := hz2
        cases he
        have hij : ¬ (i' = i ∧ j' = j) := fun ⟨a, b⟩ => hD2 ⟨r, by rw [a, b]⟩
        exact ⟨_, setN_sub hN1 hnp (r := (i', j') :: r) ⟨_, _, y', rfl, k1, k2, by rw [put_ne _ _ hij]; exact k3, k4⟩⟩
    · exact setN_old hN1 hnp hz1 e1
  -- a live name does not lie behind the cell yet
  have nob : ∀ {D}, s.lv D → ¬ ∃ r, D = ⟨N.r, N.p ++ (i, j) :: r⟩ := by
    rintro D ⟨z, hz⟩ ⟨r, rfl⟩
    obtain ⟨e', c', y', he, k1, k2, k3, k4⟩ := (at_below hN).1 hz
    cases he
    rw [hc] at k3; cases k3
  have gm : ∀ {D}, s.lv D → mvG N i j R γ D = γ D := fun hD => mvG_out (nob hD)
  have gmr : ∀ {L}, mvG N i j R γ (rt L) = γ (rt L) := fun {L} => mvG_out (fun ⟨r, e1⟩ => by have := congrArg Nm.p e1; simp at this)
  refine h.build (Step.same _ w) (by rw [setN_n]; exact h.size) h.defers (fun D z hD bk hb => ?_) (fun D M u v bk hD hM hb hc' => ?_) (fun hk t => ?_) (fun hk D z hD => ?_) ⟨fun t M hM => ?_, fun M z D hM hD => ?_⟩ (fun L hL hl => ?_)
  · rcases cs hD with ⟨rfl, rfl⟩ | ⟨r, z0, rfl, h1, rfl⟩ | ⟨_, h2, _, z1, h3, _⟩
    · rw [gm ⟨_, hN⟩] at hb; exact .inr ⟨_, _, hN, hb⟩
    · rw [mvG_in] at hb; exact .inr ⟨_, z0, h1, hb⟩
    · rw [mvG_out h2] at hb; exact .inr ⟨_, z1, h3, hb⟩
  · rcases cs hD with ⟨rfl, rfl⟩ | ⟨r, z0, rfl, h1, rfl⟩ | ⟨e1, h2, e2, z1, h3, _⟩ <;> rcases cs hM with ⟨rfl, rfl⟩ | ⟨r', z0', rfl, h1', rfl⟩ | ⟨e1', h2', e2', z1', h3', _⟩
    · rfl
    · rw [gm ⟨_, hN⟩] at hb; rw [mvG_in] at hc'
      have := h.inj _ _ _ _ bk hN h1' hb hc'
      exact absurd (congrArg Nm.r this) hne
    · rw [gm ⟨_, hN⟩] at hb; rw [mvG_out h2'] at hc'
      exact h.inj _ _ _ _ bk hN h3' hb hc'
    · rw [mvG_in] at hb; rw [gm ⟨_, hN⟩] at hc'
      have := h.inj _ _ _ _ bk h1 hN hb hc'
      exact absurd (congrArg Nm.r this).symm hne
    · rw [mvG_in] at hb hc'
      have := h.inj _ _ _ _ bk h1 h1' hb hc'
      have := congrArg Nm.p this
      simp only at this
      rw [this]
    · rw [mvG_in] at hb; rw [mvG_out h2'] at hc'
      have := h.inj _ _ _ _ bk h1 h3' hb hc'
      exact absurd (congrArg Nm.r this).symm e2'
    · rw [mvG_out h2] at hb; rw [gm ⟨_, hN⟩] at hc'
      exact h.inj _ _ _ _ bk h3 hN hb hc'
    · rw [mvG_out h2] at hb; rw [mvG_in] at hc'
      have := h.inj _ _ _ _ bk h3 h1' hb hc'
      exact absurd (congrArg Nm.r this) e2
    · rw [mvG_out h2] at hb; rw [mvG_out h2'] at hc'
      exact h.inj _ _ _ _ bk h3 h3' hb hc'
  · rw [setN_slot]
    show Reps w _ _ ((s.kill (atR R)).slot t) .o _
    have := hk0.slots t
    rw [own_kill] at this
    exact (this.keep hk).gam (fun _ M hM => gm (lv_kill.1 (hk0.wf.slot t M hM)))
  · rcases cs hD with ⟨rfl, rfl⟩ | ⟨r, z0, rfl, h1, rfl⟩ | ⟨e1, h2, e2, z1, h3, h4⟩
    · have hb := (h.blks D _ hN).kill (Q := atR R)
      rcases hb with ⟨h0, _⟩ | ⟨bk, o, cap, us, h1, hp, h2, h3, h4, h5⟩
      · rw [Ct.kill_len] at h0; omega
      · refine .inr ⟨bk, o, cap, us, by rw [gm ⟨_, hN⟩]; exact h1, hp, h2, h3, h4, fun k l hk1 hl => ?_⟩
        have e4 : ((c.kill (atR R)).put i j (y.kill (atR R)).asOwn).len = (c.kill (atR R)).len := rfl
        have e5 : ((c.kill (atR R)).put i j (y.kill (atR R)).asOwn).st = (c.kill (atR R)).st := rfl
        rw [e5] at hl ⊢
        rw [e4] at hk1
        obtain ⟨u, h6, h7, h8⟩ := h5 k l hk1 hl
        refine ⟨u, h6, h7, ?_⟩
        by_cases hij : k = i ∧ l = j
        · obtain ⟨rfl, rfl⟩ := hij
          rw [put_eq]
          unfold CellR
          rw [asOwn_sub hnest]
          simp only
          rcases h.blks D _ hN with ⟨h0, _⟩ | ⟨bk', o', cap', us', k1, kp, k2, k3, k4, k5⟩
          · omega
          · obtain ⟨u', k6, k7, k8⟩ := k5 k l hi hj
            rw [Ct.kill_len] at h1
            rw [k1] at h1
            cases h1
            rw [k3] at h3
            cases h3
            rw [Ct.kill_st, k6] at h6
            cases h6
            have k9 := k8.rep (by rw [hc]; rfl)
            rw [hc] at k9
            have k10 : u = γ (rt R) := by simpa [Reps] using k9.2
            rw [k10]
            exact (mvG_in D k l R γ []).symm
        · rw [put_ne _ _ hij]
          refine h8.keep hk (fun M hM => gm ?_) (fun hs => ?_)
          · rw [Ct.kill_cell] at hM
            exact h.wf.blk D _ M hN ⟨k, l, by rw [Ct.kill_len] at hk1; exact hk1, by rw [Ct.kill_st] at hl; exact hl, (has_kill hM).1⟩
          · obtain ⟨z2, hz2⟩ := Option.isSome_iff_exists.1 hs
            rw [Ct.kill_cell, sub_kill] at hz2
            cases hq : (c.cell k l).sub with
            | none => rw [hq] at hz2; cases hz2
            | some z3 => exact gm ⟨z3, at_kid hN (by rw [Ct.kill_len] at hk1; exact hk1) (by rw [Ct.kill_st] at hl; exact hl) hq⟩
    · refine ((h.blks _ z0 h1).kill (Q := atR R)).keep hk (mvG_in _ _ _ _ _ _) (fun M hM => gm (h.wf.blk _ z0 M h1 (hasB_kill hM).1)) (fun e1 c1 i1 j1 _ _ _ _ => ?_) (fun bk hb => rfl)
      have : (⟨N.r, N.p ++ (i, j) :: r⟩ : Nm).kid i1 j1 = ⟨N.r, N.p ++ (i, j) :: (r ++ [(i1, j1)])⟩ := by simp [Nm.kid]
      rw [this, mvG_in]
      rfl
    · refine BlkOk.same ?_ h4
      refine ((h.blks D z1 h3).kill (Q := atR R)).keep hk (gm ⟨_, h3⟩) (fun M hM => gm (h.wf.blk D z1 M h3 (hasB_kill hM).1)) (fun e5 c5 i5 j5 h6 h7 h8 h9 => ?_) (fun bk hb => rfl)
      cases z1 with
      | row e6 c6 =>
        cases h6
        rw [Ct.kill_cell, sub_kill] at h9
        cases hq : (c6.cell i5 j5).sub with
        | none => rw [hq] at h9; cases h9
        | some z3 => exact gm ⟨z3, at_kid h3 (by rw [Ct.kill_len] at h7; exact h7) (by rw [Ct.kill_st] at h8; exact h8) hq⟩
      | box l => cases h6
      | mp t m => cases h6
  · rw [setN_slot] at hM
    have hM' : ((s.kill (atR R)).slot t).has M := hM
    have := lv_kill.1 (hk0.wf.slot t M hM')
    exact lv this (q0.slot t M hM') (nob this)
  · rcases cs hM with ⟨rfl, rfl⟩ | ⟨r, z0, rfl, h1, rfl⟩ | ⟨e1, h2, e2, z1, h3, h4⟩
    · obtain ⟨k, l, hk1, hl, hD⟩ := hD
      by_cases hij : k = i ∧ l = j
      · obtain ⟨rfl, rfl⟩ := hij
        rw [put_eq] at hD
        exact absurd hD (sub_has (asOwn_sub hnest) D)
      · rw [put_ne _ _ hij, Ct.kill_cell] at hD
        have e5 : ((c.kill (atR R)).put i j (y.kill (atR R)).asOwn).len = (c.kill (atR R)).len := rfl
        have e6 : ((c.kill (atR R)).put i j (y.kill (atR R)).asOwn).st = (c.kill (atR R)).st := rfl
        rw [e5, Ct.kill_len] at hk1
        rw [e6, Ct.kill_st] at hl
        have := h.wf.blk M _ D hN ⟨k, l, hk1, hl, (has_kill hD).1⟩
        exact lv this (atR_ne (has_kill hD).2) (nob this)
    · have := h.wf.blk _ z0 D h1 (hasB_kill hD).1
      exact lv this (atR_ne (hasB_kill hD).2) (nob this)
    · have hD' := h4.has hD
      have := h.wf.blk M z1 D h3 (hasB_kill hD').1
      exact lv this (atR_ne (hasB_kill hD').2) (nob this)
  · obtain ⟨z, hz⟩ := hl
    rw [gmr]
    rcases cs hz with ⟨e1, _⟩ | ⟨r, z0, e1, _⟩ | ⟨_, _, _, z1, h3, _⟩
    · exact h.hd L hL (by rw [e1]; exact ⟨_, hN⟩)
    · have := congrArg Nm.p e1; simp at this
    · exact h.hd L hL ⟨z1, h3⟩
end
end Go.Proofs.Ytbncmiglhjfcdaa
