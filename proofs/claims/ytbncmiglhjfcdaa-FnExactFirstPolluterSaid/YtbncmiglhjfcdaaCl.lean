/-
  Names changed; what a caller shows and lends to a callee.
-/
import Derived.Test.YtbncmiglhjfcdaaCk
namespace Go.Proofs.Ytbncmiglhjfcdaa
open Go.RowKit
set_option linter.unusedVariables false

/-! ### names changed -/
def Nm.rn (ρ : Nat → Nm) (N : Nm) : Nm := ⟨(ρ N.r).r, (ρ N.r).p ++ N.p⟩
theorem rn_kid (ρ : Nat → Nm) (N : Nm) (i j : Nat) : (N.kid i j).rn ρ = (N.rn ρ).kid i j := by simp [Nm.rn, Nm.kid]
theorem rn_rt (ρ : Nat → Nm) (L : Nat) : (rt L).rn ρ = ρ L := by simp [Nm.rn]
theorem rn_at (ρ : Nat → Nm) (L : Nat) (p : List (Nat × Nat)) : (⟨L, p⟩ : Nm).rn ρ = ⟨(ρ L).r, (ρ L).p ++ p⟩ := rfl
def AV.rn (ρ : Nat → Nm) : AV → AV
  | .cons a l => .cons (a.rn ρ) (l.rn ρ)
  | .agg l => .agg (l.rn ρ)
  | .tup l => .tup (l.rn ρ)
  | .fn f l => .fn f (l.rn ρ)
  | .op N j => .op (N.rn ρ) j
  | .om N => .om (N.rn ρ)
  | .os N => .os (N.rn ρ)
  | .oe N st k j => .oe (N.rn ρ) st k j
  | .ow e n st cell => .ow e n st fun k j => (cell k j).rn ρ
  | a => a
def Ct.rn (ρ : Nat → Nm) : Ct → Ct
  | .tab n st cell => .tab n st fun k j => (cell k j).rn ρ
  | c => c
def Blk.rn (ρ : Nat → Nm) : Blk → Blk
  | .box l => .box (l.rn ρ)
  | .row e c => .row e (c.rn ρ)
  | x => x
section
variable {w : World} {own : Bool → Nat → Prop} {γ : Nm → Value} {ρ : Nat → Nm}
theorem Reps.rn : ∀ {a : AV} {m : Md} {vs : List Value}, Reps w own γ (a.rn ρ) m vs ↔ Reps w own (fun N => γ (N.rn ρ)) a m vs := by
  intro a
  induction a with
  | cons a l iha ihl => intro m vs; exact ⟨fun ⟨v, us, e, h1, h2⟩ => ⟨v, us, e, iha.1 h1, ihl.1 h2⟩, fun ⟨v, us, e, h1, h2⟩ => ⟨v, us, e, iha.2 h1, ihl.2 h2⟩⟩
  | agg l ih => intro m vs; exact ⟨fun ⟨us, e, h1⟩ => ⟨us, e, ih.1 h1⟩, fun ⟨us, e, h1⟩ => ⟨us, e, ih.2 h1⟩⟩
  | tup l ih => intro m vs; exact ⟨fun ⟨us, e, h1⟩ => ⟨us, e, ih.1 h1⟩, fun ⟨us, e, h1⟩ => ⟨us, e, ih.2 h1⟩⟩
  | fn f l ih => intro m vs; exact ⟨fun ⟨us, e, h1⟩ => ⟨us, e, ih.1 h1⟩, fun ⟨us, e, h1⟩ => ⟨us, e, ih.2 h1⟩⟩
  | rs f n st cell ih =>
    intro m vs
    constructor
    · rintro ⟨A, cap, e, hc, h1⟩
      refine ⟨A, cap, e, hc, fun hn => ?_⟩
      obtain ⟨bk, o, e1, h2, h3, h4⟩ := h1 hn
      refine ⟨bk, o, e1, h2, h3, fun k j hk hj => ?_⟩
      obtain ⟨u, h5, ho, h6⟩ := h4 k j hk hj
      exact ⟨u, h5, ho, h6.gam_ro⟩
    · rintro ⟨A, cap, e, hc, h1⟩
      refine ⟨A, cap, e, hc, fun hn => ?_⟩
      obtain ⟨bk, o, e1, h2, h3, h4⟩ := h1 hn
      refine ⟨bk, o, e1, h2, h3, fun k j hk hj => ?_⟩
      obtain ⟨u, h5, ho, h6⟩ := h4 k j hk hj
      exact ⟨u, h5, ho, h6.gam_ro⟩
  | rp f n st cell k0 j0 ih =>
    intro m vs
    constructor
    · rintro ⟨bk, o, e1, h0, h2, h3, h4⟩
      refine ⟨bk, o, e1, h0, h2, h3, fun k j hk hj => ?_⟩
      obtain ⟨u, h5, ho, h6⟩ := h4 k j hk hj
      exact ⟨u, h5, ho, h6.gam_ro⟩
    · rintro ⟨bk, o, e1, h0, h2, h3, h4⟩
      refine ⟨bk, o, e1, h0, h2, h3, fun k j hk hj => ?_⟩
      obtain ⟨u, h5, ho, h6⟩ := h4 k j hk hj
      exact ⟨u, h5, ho, h6.gam_ro⟩
  | _ => intro m vs; exact Iff.rfl
theorem Ct.rn_len (c : Ct) : (c.rn ρ).len = c.len := by cases c <;> rfl
theorem Ct.rn_st (c : Ct) : (c.rn ρ).st = c.st := by cases c <;> rfl
theorem Ct.rn_cell (c : Ct) (k j : Nat) : (c.rn ρ).cell k j = (c.cell k j).rn ρ := by cases c <;> rfl
theorem sub_rn (a : AV) : (a.rn ρ).sub = a.sub.map (Blk.rn ρ) := by cases a <;> rfl
theorem nest_rn (x : Blk) : (x.rn ρ).nest = x.nest := by
  cases x with
  | row e c => cases c <;> rfl
  | _ => rfl
theorem has_rn {M : Nm} : ∀ {a : AV}, (a.rn ρ).has M ↔ ∃ N, a.has N ∧ M = N.rn ρ := by
  intro a
  induction a with
  | cons a l iha ihl =>
    constructor
    · rintro (h | h)
      · obtain ⟨N, h1, h2⟩ := iha.1 h; exact ⟨N, .inl h1, h2⟩
      · obtain ⟨N, h1, h2⟩ := ihl.1 h; exact ⟨N, .inr h1, h2⟩
    · rintro ⟨N, h | h, e⟩
      · exact .inl (iha.2 ⟨N, h, e⟩)
      · exact .inr (ihl.2 ⟨N, h, e⟩)
  | agg l ih => exact ih
  | tup l ih => exact ih
  | fn f l ih => exact ih
  | op N j => exact ⟨fun h => ⟨N, rfl, (show N.rn ρ = M from h).symm⟩, fun ⟨N', h, e⟩ => by cases (show N = N' from h); exact e.symm⟩
  | om N => exact ⟨fun h => ⟨N, rfl, (show N.rn ρ = M from h).symm⟩, fun ⟨N', h, e⟩ => by cases (show N = N' from h); exact e.symm⟩
  | os N => exact ⟨fun h => ⟨N, rfl, (show N.rn ρ = M from h).symm⟩, fun ⟨N', h, e⟩ => by cases (show N = N' from h); exact e.symm⟩
  | oe N st k j => exact ⟨fun h => ⟨N, rfl, (show N.rn ρ = M from h).symm⟩, fun ⟨N', h, e⟩ => by cases (show N = N' from h); exact e.symm⟩
  | _ => exact ⟨fun h => h.elim, fun ⟨_, h, _⟩ => h.elim⟩
theorem hasB_rn {M : Nm} {x : Blk} : (x.rn ρ).has M ↔ ∃ N, x.has N ∧ M = N.rn ρ := by
  cases x with
  | box l => exact has_rn
  | row e c =>
    constructor
    · rintro ⟨k, j, hk, hj, h⟩
      rw [Ct.rn_cell] at h
      rw [Ct.rn_len] at hk
      rw [Ct.rn_st] at hj
      obtain ⟨N, h1, h2⟩ := has_rn.1 h
      exact ⟨N, ⟨k, j, hk, hj, h1⟩, h2⟩
    · rintro ⟨N, ⟨k, j, hk, hj, h⟩, e⟩
      exact ⟨k, j, by rw [Ct.rn_len]; exact hk, by rw [Ct.rn_st]; exact hj, by rw [Ct.rn_cell]; exact has_rn.2 ⟨N, h, e⟩⟩
  | mp t m => exact ⟨fun h => h.elim, fun ⟨_, h, _⟩ => h.elim⟩
theorem CellR.rn {N : Nm} {i j : Nat} {a : AV} {u : Value} : CellR w own γ (N.rn ρ) i j (a.rn ρ) u ↔ CellR w own (fun M => γ (M.rn ρ)) N i j a u := by
  unfold CellR
  rw [sub_rn]
  cases a.sub with
  | none => exact Reps.rn
  | some z => simp only [Option.map_some]; rw [rn_kid]
theorem BlkOk.rn {N : Nm} {x : Blk} : BlkOk w own γ (N.rn ρ) (x.rn ρ) ↔ BlkOk w own (fun M => γ (M.rn ρ)) N x := by
  cases x with
  | box l => exact ⟨fun ⟨bk, us, ty, e, h1, ho, h2⟩ => ⟨bk, us, ty, e, h1, ho, Reps.rn.1 h2⟩, fun ⟨bk, us, ty, e, h1, ho, h2⟩ => ⟨bk, us, ty, e, h1, ho, Reps.rn.2 h2⟩⟩
  | row e c =>
    constructor
    · rintro (⟨h0, A, e⟩ | ⟨bk, o, cap, us, e, hp, hc, h1, h2, h3⟩)
      · exact .inl ⟨by rw [← Ct.rn_len (ρ := ρ)]; exact h0, A, e⟩
      · rw [Ct.rn_len] at e hc
        rw [Ct.rn_st] at h2
        refine .inr ⟨bk, o, cap, us, e, hp, hc, h1, h2, fun k j hk hj => ?_⟩
        obtain ⟨u, h4, ho, h5⟩ := h3 k j (by rw [Ct.rn_len]; exact hk) (by rw [Ct.rn_st]; exact hj)
        rw [Ct.rn_st] at h4
        rw [Ct.rn_cell] at h5
        exact ⟨u, h4, ho, CellR.rn.1 h5⟩
    · rintro (⟨h0, A, e⟩ | ⟨bk, o, cap, us, e, hp, hc, h1, h2, h3⟩)
      · exact .inl ⟨by rw [Ct.rn_len]; exact h0, A, e⟩
      · refine .inr ⟨bk, o, cap, us, by rw [Ct.rn_len]; exact e, hp, by rw [Ct.rn_len]; exact hc, h1, by rw [Ct.rn_st]; exact h2, fun k j hk hj => ?_⟩
        rw [Ct.rn_len] at hk
        rw [Ct.rn_st] at hj ⊢
        obtain ⟨u, h4, ho, h5⟩ := h3 k j hk hj
        exact ⟨u, h4, ho, by rw [Ct.rn_cell]; exact CellR.rn.2 h5⟩
  | mp t m => exact Iff.rfl
theorem at_rn : ∀ {p : List (Nat × Nat)} {x z : Blk}, (x.rn ρ).At p z ↔ ∃ y, x.At p y ∧ z = y.rn ρ := by
  intro p
  induction p with
  | nil => intro x z; exact ⟨fun h => ⟨x, rfl, h⟩, fun ⟨y, h1, h2⟩ => by cases h1; exact h2⟩
  | cons q p ih =>
    obtain ⟨i, j⟩ := q
    intro x z
    constructor
    · rintro ⟨e, c, y, he, h1, h2, h3, h4⟩
      cases x with
      | row e' c' =>
        cases he
        rw [Ct.rn_cell, sub_rn] at h3
        cases hs : (c'.cell i j).sub with
        | none => rw [hs] at h3; cases h3
        | some x1 =>
          rw [hs] at h3; cases h3
          obtain ⟨y', h5, h6⟩ := ih.1 h4
          exact ⟨y', ⟨_, c', x1, rfl, by rw [Ct.rn_len] at h1; exact h1, by rw [Ct.rn_st] at h2; exact h2, hs, h5⟩, h6⟩
      | box l => cases he
      | mp t m => cases he
    · rintro ⟨y, ⟨e, c, x1, rfl, h1, h2, h3, h4⟩, rfl⟩
      exact ⟨e, c.rn ρ, x1.rn ρ, rfl, by rw [Ct.rn_len]; exact h1, by rw [Ct.rn_st]; exact h2, by rw [Ct.rn_cell, sub_rn, h3]; rfl, ih.2 ⟨y, h4, rfl⟩⟩
end

def lkx : List (Nat × Blk) → Nat → Option Blk
  | [], _ => none
  | p :: l, t => bif Nat.beq p.1 t then some p.2 else lkx l t
/-- The blocks of a list of trees. -/
def ownL (σ : List (Nat × Blk)) (γ : Nm → Value) (bk : Nat) : Prop := ∃ N x, AtL (lkx σ) N x ∧ blkOf (γ N) = some bk
def Blk.new : Blk → Prop
  | .box l => l.new
  | .row _ c => ∀ k j, k < c.len → j < c.st → (c.cell k j).new
  | .mp _ _ => True
theorem new_sub {a : AV} {x : Blk} (h : a.sub = some x) (hn : a.new) : x.new := by
  cases a <;> cases h
  · exact fun _ _ _ _ => trivial
  · exact hn
theorem new_at : ∀ {p : List (Nat × Nat)} {x z : Blk}, x.new → x.At p z → z.new := by
  intro p
  induction p with
  | nil => intro x z h hz; cases hz; exact h
  | cons q p ih =>
    obtain ⟨i, j⟩ := q
    rintro x z h ⟨e, c, y, rfl, h1, h2, h3, h4⟩
    exact ih (new_sub h3 (h i j h1 h2)) h4
theorem BlkOk.keepT {w w' : World} {own own' : Bool → Nat → Prop} {γ : Nm → Value} {N : Nm} {x : Blk} (h : BlkOk w own γ N x) (hn : x.new) (hs : w.heap.size ≤ w'.heap.size) (hb : ∀ k, k < w.heap.size → ¬ own true k → w'.heap[k]? = w.heap[k]? ∧ ¬ own' true k)
    (hbk : ∀ bk, blkOf (γ N) = some bk → w'.heap[bk]? = w.heap[bk]?) : BlkOk w' own' γ N x := by
  cases x with
  | box l =>
    obtain ⟨bk, us, ty, e, h1, ho, h2⟩ := h
    exact ⟨bk, us, ty, e, (hbk bk (by rw [e]; rfl)).trans h1, ho, h2.keepT hs hb (.inl hn)⟩
  | row e c =>
    rcases h with ⟨h0, A, e⟩ | ⟨bk, o, cap, us, e, hp, hc, h1, h2, h3⟩
    · exact .inl ⟨h0, A, e⟩
    · refine .inr ⟨bk, o, cap, us, e, hp, hc, (hbk bk (by rw [e, blkOf_slice hp])).trans h1, h2, fun k j hk hj => ?_⟩
      obtain ⟨u, h4, ho, h5⟩ := h3 k j hk hj
      refine ⟨u, h4, ho, ?_⟩
      unfold CellR at h5 ⊢
      cases ha : (c.cell k j).sub with
      | none => rw [ha] at h5; exact Reps.keepT hs hb (.inl (hn k j hk hj)) h5
      | some z => rw [ha] at h5; exact h5
  | mp t m =>
    obtain ⟨r, es, clock, e, h1, h2⟩ := h
    exact ⟨r, es, clock, e, (hbk r (by rw [e]; rfl)).trans h1, h2⟩

/-! ### what a function does -/
structure Pre (E : Ent0) (σ : List (Nat × Blk)) : Prop where
  b : E.b = ownL σ E.g
  blks : ∀ N x, AtL (lkx σ) N x → BlkOk E.w (E.ow (ownL σ E.g)) E.g N x
  mine : ∀ N x bk, AtL (lkx σ) N x → blkOf (E.g N) = some bk → bk < E.w.heap.size
  inj : ∀ N M x y bk, AtL (lkx σ) N x → AtL (lkx σ) M y → blkOf (E.g N) = some bk → blkOf (E.g M) = some bk → N = M
  wf : ∀ M x N, AtL (lkx σ) M x → x.has N → ∃ y, AtL (lkx σ) N y
structure Post (E : Ent0) (nw : Bool) (w' : World) (σ : List (Nat × Blk)) (γ : Nm → Value) : Prop where
  blks : ∀ N x, AtL (lkx σ) N x → BlkOk w' (E.ow (ownL σ γ)) γ N x ∧ (nw = true → x.new)
  mine : ∀ N x bk, AtL (lkx σ) N x → blkOf (γ N) = some bk → bk < w'.heap.size ∧ (E.w.heap.size ≤ bk ∨ E.b bk)
  inj : ∀ N M x y bk, AtL (lkx σ) N x → AtL (lkx σ) M y → blkOf (γ N) = some bk → blkOf (γ M) = some bk → N = M
  wf : ∀ M x N, AtL (lkx σ) M x → x.has N → ∃ y, AtL (lkx σ) N y
  hd : ∀ L x, L < low → lkx σ L = some x → γ (rt L) = E.g (rt L)
def Ent (P : Program) (f : Nat) : Prop := ∃ fn c, P.funcs[f]? = some fn ∧ (fn.name == "runtime.NumGoroutine") = false ∧ fn.body = some c
/-- The function f, called with what the arguments say and with the memory σ that it is lent, returns what r says; σ': what it leaves of what it was lent (names below 'low'), and new memory that it hands over. nw: what it hands over speaks of nothing old. -/
def Fn (P : Program) (f : Nat) (nw : Bool) (args : AV) (σ : List (Nat × Blk)) (r : AV) (σ' : List (Nat × Blk)) : Prop :=
  Ent P f ∧ ∀ (E : Ent0) (vs : List Value), Pre E σ → Reps E.w (E.ow (ownL σ E.g)) E.g args .o vs → (∀ N, args.has N → ∃ x, AtL (lkx σ) N x) →
    Calls P f vs.toArray E.w fun e w' => ∃ v γ, e = .returned v ∧ Fr E.b E.w w' ∧ Post E nw w' σ' γ ∧ Reps w' (E.ow (ownL σ' γ)) γ r .o [v] ∧ (nw = true → r.new) ∧ ∀ N, r.has N → ∃ x, AtL (lkx σ') N x

/-! ### what a caller shows and lends -/
/-- ns: the names that are lent, in their order. -/
def lend (ns : List Nm) (i : Nat) : Nm := ns.getD i (rt 0)
def avoid (ns : List Nm) (N : Nm) : Prop := (ns.all fun M => !Nat.beq M.r N.r) = true
/-- What the caller says (a) serves where the callee says a'. vw: may it look at the caller's own memory? ro: inside memory that is only read. dp: what it sees behind a block. -/
def argS (s : St) (ns : List Nm) (vw : Bool) (dp : AV → AV → Prop) : AV → Bool → AV → Prop
  | .cons a l, ro, a' => match a' with | .cons b m => argS s ns vw dp a ro b ∧ argS s ns vw dp l ro m | _ => False
  | .agg l, ro, a' => match a' with | .agg m => argS s ns vw dp l ro m | .top => True | _ => False
  | .tup l, ro, a' => match a' with | .tup m => argS s ns vw dp l ro m | .top => True | _ => False
  | .fn f l, ro, a' => match a' with | .fn g m => f = g ∧ argS s ns vw dp l ro m | .top => True | _ => False
  | .nil, _, a' => match a' with | .nil => True | _ => False
  | .int k x, _, a' => match a' with | .int q y => k = q ∧ x = y | .top => True | _ => False
  | .b x, _, a' => match a' with | .b y => x = y | .tt => x = true | .ff => x = false | .top => True | _ => False
  | .tt, _, a' => match a' with | .b y => true = y | .tt => True | .top => True | _ => False
  | .ff, _, a' => match a' with | .b y => false = y | .ff => True | .top => True | _ => False
  | .s x, _, a' => match a' with | .s y => x = y | .top => True | _ => False
  | .c v, _, a' => match a' with | .c u => v = u | .top => True | _ => False
  | .top, _, a' => match a' with | .top => True | _ => False
  | .nl, _, a' => match a' with | .nl => True | .e0 => True | .ri f k xs => f = false ∧ xs = [] | .rs f n st cell => f = false ∧ n = 0 | .top => True | _ => False
  | .e0, _, a' => match a' with | .e0 => True | .ri f k xs => f = false ∧ xs = [] | .rs f n st cell => f = false ∧ n = 0 | .top => True | _ => False
  | .ri _ k xs, _, a' => match a' with | .ri f q ys => f = false ∧ k = q ∧ xs = ys | .rs f m st cell => f = false ∧ xs.length = m ∧ 1 = st ∧ ∀ i, i < xs.length → cell i 0 = .int k (xs.getD i 0) | .top => True | _ => False
  | .rs _ m st cell, _, a' => match a' with | .rs f m' st' cell' => f = false ∧ m = m' ∧ st = st' ∧ ∀ i j, i < m → j < st → argS s ns vw dp (cell i j) true (cell' i j) | .top => True | _ => False
  | .rp _ m st cell i0 j0, _, a' => match a' with | .rp f m' st' cell' i1 j1 => f = false ∧ m = m' ∧ st = st' ∧ i0 = i1 ∧ j0 = j1 ∧ ∀ i j, i < m → j < st → argS s ns vw dp (cell i j) true (cell' i j) | .top => True | _ => False
  | .op N j, ro, a' =>
    match a' with
    | .op M j' => ro = false ∧ j = j' ∧ N = M.rn (lend ns) ∧ M.r < ns.length
    | .rp f m st cell i1 j1 => vw = true ∧ f = false ∧ avoid ns N ∧ (match s.blk N with | some (.box l) => m = 1 ∧ st = l.len ∧ i1 = 0 ∧ j1 = j ∧ ∀ i, i < l.len → dp (l.nth i) (cell 0 i) | _ => False)
    | .top => True
    | _ => False
  | .os N, ro, a' =>
    match a' with
    | .os M => ro = false ∧ N = M.rn (lend ns) ∧ M.r < ns.length
    | .ri f k xs => vw = true ∧ f = false ∧ avoid ns N ∧ (match s.blk N with | some (.row _ (.ints q ys)) => q = k ∧ ys = xs | _ => False)
    | .rs f m st cell => vw = true ∧ f = false ∧ avoid ns N ∧ (match s.blk N with | some (.row _ c) => c.len = m ∧ c.st = st ∧ ∀ i j, i < c.len → j < c.st → dp (c.cell i j) (cell i j) | _ => False)
    | .top => True
    | _ => False
  | .om N, ro, a' => match a' with | .om M => ro = false ∧ N = M.rn (lend ns) ∧ M.r < ns.length | .top => True | _ => False
  | .oe N st k j, ro, a' => match a' with | .oe M st' k' j' => ro = false ∧ st = st' ∧ k = k' ∧ j = j' ∧ N = M.rn (lend ns) ∧ M.r < ns.length | .top => True | _ => False
  | .oi e k xs, ro, a' => match a' with | .oi e' k' ys => ro = false ∧ e = e' ∧ k = k' ∧ xs = ys | .ri f k' ys => ro = true ∧ vw = true ∧ f = false ∧ k = k' ∧ xs = ys | .top => ro = true | _ => False
  | .ow e m st cell, ro, a' => match a' with | .ow e' m' st' cell' => ro = false ∧ e = e' ∧ m = m' ∧ st = st' ∧ ∀ i j, i < m → j < st → argS s ns vw dp (cell i j) false (cell' i j) | .rs f m' st' cell' => ro = true ∧ vw = true ∧ f = false ∧ m = m' ∧ st = st' ∧ ∀ i j, i < m → j < st → argS s ns vw dp (cell i j) true (cell' i j) | .top => ro = true | _ => False
def arg (s : St) (ns : List Nm) (vw : Bool) : Nat → Bool → AV → AV → Prop
  | 0, ro, a, a' => argS s ns vw (fun _ _ => False) a ro a'
  | n + 1, ro, a, a' => argS s ns vw (fun x y => arg s ns vw n true x y) a ro a'
def argB (s : St) (ns : List Nm) (vw : Bool) : Blk → Blk → Prop
  | .box l, y => (match y with | .box m => arg s ns vw 3 false l m | _ => False)
  | .row e (.ints k xs), y => (match y with | .row e' (.ints q ys) => e = e' ∧ k = q ∧ xs = ys | _ => False)
  | .row e (.bools xs), y => (match y with | .row e' (.bools ys) => e = e' ∧ xs = ys | _ => False)
  | .row e (.tab n st cell), y => (match y with | .row e' (.tab n' st' cell') => e = e' ∧ n = n' ∧ st = st' ∧ ∀ i j, i < n → j < st → arg s ns vw 3 false (cell i j) (cell' i j) | _ => False)
  | .mp t m, y => y = .mp t m
/-- The memory that is lent. -/
def lends (s : St) (ns0 : List Nm) (vw : Bool) : Nat → List Nm → List (Nat × Blk) → Prop
  | _, [], [] => True
  | k, N :: ns, p :: σ => p.1 = k ∧ s.lv N ∧ (match s.blk N with | some x => argB s ns0 vw x p.2 | none => False) ∧ lends s ns0 vw (k + 1) ns σ
  | _, _, _ => False
end Go.Proofs.Ytbncmiglhjfcdaa
