/-
  A state that tells less.
-/
import Derived.Test.YtbncmiglhjfcdaaCw
namespace Go.Proofs.Ytbncmiglhjfcdaa
open Go.RowKit
set_option linter.unusedVariables false

/-- What a says is said by b, too. cl: in a row's cell. The nil slice may be told as an empty slice of one's own. -/
def avle (s : St) : AV → Bool → AV → Prop
  | .cons a l, cl, y => match y with | .cons b m => avle s a false b ∧ avle s l false m | _ => False
  | .agg l, cl, y => match y with | .agg m => avle s l false m | .top => True | _ => False
  | .tup l, cl, y => match y with | .tup m => avle s l false m | .top => True | _ => False
  | .fn f l, cl, y => match y with | .fn g m => f = g ∧ avle s l false m | .top => True | _ => False
  | .nil, _, y => match y with | .nil => True | _ => False
  | .int k x, _, y => match y with | .int q z => k = q ∧ x = z | .top => True | _ => False
  | .b x, _, y => match y with | .b z => x = z | .tt => x = true | .ff => x = false | .top => True | _ => False
  | .tt, _, y => match y with | .b z => true = z | .tt => True | .top => True | _ => False
  | .ff, _, y => match y with | .b z => false = z | .ff => True | .top => True | _ => False
  | .s x, _, y => match y with | .s z => x = z | .top => True | _ => False
  | .c v, _, y => match y with | .c u => v = u | .top => True | _ => False
  | .top, _, y => match y with | .top => True | _ => False
  | .nl, cl, y => match y with | .nl => True | .e0 => True | .os N => N.p = [] ∧ s.rblk N.r = none | .ri f k xs => xs = [] | .rs f n st cell => n = 0 | .oi e k xs => cl = true ∧ xs = [] | .ow e n st cell => cl = true ∧ n = 0 | .top => True | _ => False
  | .e0, _, y => match y with | .e0 => True | .ri f k xs => xs = [] | .rs f n st cell => n = 0 | .top => True | _ => False
  | .ri f k xs, _, y => match y with | .ri g q ys => (g = false ∨ f = g) ∧ k = q ∧ xs = ys | .top => True | _ => False
  | .rs f m st cell, _, y => match y with | .rs g m' st' cell' => (g = false ∨ f = g) ∧ m = m' ∧ st = st' ∧ ∀ i j, i < m → j < st → cell i j = cell' i j | .top => True | _ => False
  | .rp f m st cell i0 j0, _, y => match y with | .rp g m' st' cell' i1 j1 => (g = false ∨ f = g) ∧ m = m' ∧ st = st' ∧ i0 = i1 ∧ j0 = j1 ∧ ∀ i j, i < m → j < st → cell i j = cell' i j | .top => True | _ => False
  | .op N j, _, y => match y with | .op M j' => N = M ∧ j = j' | .top => True | _ => False
  | .om N, _, y => match y with | .om M => N = M | .top => True | _ => False
  | .os N, _, y => match y with | .os M => N = M | .top => True | _ => False
  | .oe N st k j, _, y => match y with | .oe M st' k' j' => N = M ∧ st = st' ∧ k = k' ∧ j = j' | .top => True | _ => False
  | .oi e k xs, cl, y => match y with | .oi e' k' ys => cl = true ∧ e = e' ∧ k = k' ∧ xs = ys | _ => False
  | .ow e m st cell, cl, y => match y with | .ow e' m' st' cell' => cl = true ∧ e = e' ∧ m = m' ∧ st = st' ∧ ∀ i j, i < m → j < st → avle s (cell i j) true (cell' i j) | _ => False
def ctle (s : St) (c c' : Ct) : Prop :=
  match c, c' with
  | .ints k xs, .ints q ys => k = q ∧ xs = ys
  | .bools xs, .bools ys => xs = ys
  | .tab n st cell, .tab n' st' cell' => n = n' ∧ st = st' ∧ ∀ i j, i < n → j < st → avle s (cell i j) true (cell' i j)
  | .ints k xs, .tab n st cell => xs.length = n ∧ 1 = st ∧ ∀ i, i < xs.length → cell i 0 = .int k (xs.getD i 0)
  | .tab n st cell, .ints k xs => n = xs.length ∧ st = 1 ∧ ∀ i, i < n → cell i 0 = .int k (xs.getD i 0)
  | _, _ => False
def mcle (m m' : Mc) : Prop :=
  match m, m' with
  | .ints k es, .ints q es' => k = q ∧ es = es'
  | .bools es, .bools es' => es = es'
  | _, _ => False
def blle (s : St) (x y : Blk) : Prop :=
  match x, y with
  | .box l, .box m => avle s l false m
  | .row e c, .row e' c' => e = e' ∧ ctle s c c'
  | .mp t m, .mp t' m' => t = t' ∧ mcle m m'
  | _, _ => False
def AV.within (ns : List Nat) : AV → Prop
  | .cons a l => a.within ns ∧ l.within ns
  | .agg l => l.within ns
  | .tup l => l.within ns
  | .fn _ l => l.within ns
  | .op N _ => ns.contains N.r = true
  | .om N => ns.contains N.r = true
  | .os N => ns.contains N.r = true
  | .oe N _ _ _ => ns.contains N.r = true
  | .ow _ n st cell => ∀ i j, i < n → j < st → (cell i j).within ns
  | _ => True
def Blk.within (ns : List Nat) : Blk → Prop
  | .box l => l.within ns
  | .row _ (.tab n st cell) => ∀ i j, i < n → j < st → (cell i j).within ns
  | _ => True
def names : List (Nat × Option Blk) → List Nat
  | [] => []
  | p :: l => match p.2 with | some _ => p.1 :: names l | none => names l
def leS (s : St) (ns : List Nat) : List (Nat × AV) → Prop
  | [] => True
  | p :: l => (avle s (s.slot p.1) false p.2 ∧ p.2.within ns) ∧ leS s ns l
/-- A block of the new state. -/
def leB1 (s : St) (ns : List Nat) (L : Nat) (y : Blk) : Prop :=
  (match s.rblk L with
   | some x => blle s x y
   | none => low ≤ L ∧ (match y with | .row _ c => c.len = 0 | _ => False)) ∧ y.within ns
def leB (s : St) (ns : List Nat) : List (Nat × Option Blk) → Prop
  | [] => True
  | p :: l => (match p.2 with | some y => leB1 s ns p.1 y | none => True) ∧ leB s ns l
/-- s tells all that t tells, entry by entry. -/
structure St.Le (s t : St) : Prop where
  n : s.n = t.n
  ok : (names t.store).all (fun L => (lkb t.store L).isSome) = true
  slots : leS s (names t.store) t.slots
  store : leB s (names t.store) t.store

section
variable {E : Ent0} {w : World} {s t : St} {a : Act} {γ : Nm → Value}

theorem leS_at {ns : List Nat} : ∀ {l : List (Nat × AV)} (h : leS s ns l) (r : Nat), lks l r = .top ∨ (avle s (s.slot r) false (lks l r) ∧ (lks l r).within ns) := by
  intro l
  induction l with
  | nil => intro h r; exact .inl rfl
  | cons p l ih =>
    intro h r
    unfold lks
    cases hb : Nat.beq p.1 r with
    | true => obtain rfl := Nat.eq_of_beq_eq_true hb; exact .inr h.1
    | false => exact ih h.2 r
theorem leB_at {ns : List Nat} : ∀ {l : List (Nat × Option Blk)} (h : leB s ns l) {L : Nat} {y : Blk}, lkb l L = some y → leB1 s ns L y := by
  intro l
  induction l with
  | nil => intro h L y hy; cases hy
  | cons p l ih =>
    intro h L y hy
    unfold lkb at hy
    cases hb : Nat.beq p.1 L with
    | true =>
      rw [hb] at hy
      obtain rfl := Nat.eq_of_beq_eq_true hb
      have h1 := h.1
      rw [show p.2 = some y from hy] at h1
      exact h1
    | false => rw [hb] at hy; exact ih h.2 hy

theorem avle_has : ∀ {x y : AV} {cl : Bool}, avle s x cl y → ∀ N, y.has N → x.has N ∨ (N.p = [] ∧ s.rblk N.r = none) := by
  intro x
  induction x with
  | cons a l iha ihl =>
    intro y cl h N hN
    unfold avle at h
    split at h
    · rcases hN with hN | hN
      · exact (iha h.1 N hN).imp .inl id
      · exact (ihl h.2 N hN).imp .inr id
    · exact h.elim
  | agg l ih => intro y cl h N hN; unfold avle at h; split at h <;> first | exact ih h N hN | exact hN.elim | exact h.elim
  | tup l ih => intro y cl h N hN; unfold avle at h; split at h <;> first | exact ih h N hN | exact hN.elim | exact h.elim
  | fn f l ih => intro y cl h N hN; unfold avle at h; split at h <;> first | exact ih h.2 N hN | exact hN.elim | exact h.elim
  | nl =>
    intro y cl h N hN; unfold avle at h
    split at h
    · exact hN.elim
    · exact hN.elim
    · cases (show _ = N from hN); exact .inr h
    all_goals first | exact hN.elim | exact h.elim
  | op M j => intro y cl h N hN; unfold avle at h; split at h <;> first | (cases (show _ = N from hN); exact .inl h.1) | exact hN.elim | exact h.elim
  | om M => intro y cl h N hN; unfold avle at h; split at h <;> first | (cases (show _ = N from hN); exact .inl h) | exact hN.elim | exact h.elim
  | os M => intro y cl h N hN; unfold avle at h; split at h <;> first | (cases (show _ = N from hN); exact .inl h) | exact hN.elim | exact h.elim
  | oe M st k j => intro y cl h N hN; unfold avle at h; split at h <;> first | (cases (show _ = N from hN); exact .inl h.1) | exact hN.elim | exact h.elim
  | _ => intro y cl h N hN; unfold avle at h; split at h <;> first | exact hN.elim | exact h.elim
theorem within_has {ns : List Nat} {N : Nm} : ∀ {x : AV}, x.within ns → x.has N → N.r ∈ ns := by
  intro x
  induction x with
  | cons a l iha ihl => intro h; rintro (h1 | h1); exact iha h.1 h1; exact ihl h.2 h1
  | agg l ih => exact ih
  | tup l ih => exact ih
  | fn f l ih => exact ih
  | op M j => intro h h1; cases (show M = N from h1); simpa [AV.within] using h
  | om M => intro h h1; cases (show M = N from h1); simpa [AV.within] using h
  | os M => intro h h1; cases (show M = N from h1); simpa [AV.within] using h
  | oe M st k j => intro h h1; cases (show M = N from h1); simpa [AV.within] using h
  | _ => intro _ h; exact h.elim
theorem withinB_has {ns : List Nat} {N : Nm} {x : Blk} (h : x.within ns) (h1 : x.has N) : N.r ∈ ns := by
  cases x with
  | box l => exact within_has h h1
  | row e c =>
    obtain ⟨k, j, hk, hj, h1⟩ := h1
    cases c with
    | tab n st cell => exact within_has (h k j hk hj) h1
    | ints q xs => exact h1.elim
    | bools xs => exact h1.elim
  | mp t m => exact h1.elim
theorem within_sub {ns : List Nat} {a : AV} {y : Blk} (h : a.within ns) (hs : a.sub = some y) : y.within ns := by
  cases a <;> cases hs
  · trivial
  · exact h
theorem within_at {ns : List Nat} : ∀ {p : List (Nat × Nat)} {x z : Blk}, x.within ns → x.At p z → z.within ns := by
  intro p
  induction p with
  | nil => intro x z h hz; cases hz; exact h
  | cons q p ih =>
    obtain ⟨i, j⟩ := q
    rintro x z h ⟨e, c, y, rfl, h1, h2, h3, h4⟩
    cases c with
    | tab n st cell => exact ih (within_sub (h i j h1 h2) h3) h4
    | ints k xs => cases h3
    | bools xs => cases h3

/-- Cells of a row that tells less. -/
theorem ctle_spec {c c' : Ct} (h : ctle s c c') : c.len = c'.len ∧ c.st = c'.st ∧ ∀ i j, i < c.len → j < c.st → avle s (c.cell i j) true (c'.cell i j) := by
  unfold ctle at h
  split at h
  · obtain ⟨rfl, rfl⟩ := h; exact ⟨rfl, rfl, fun i j _ _ => ⟨rfl, rfl⟩⟩
  · subst h; exact ⟨rfl, rfl, fun i j _ _ => rfl⟩
  · obtain ⟨rfl, rfl, h⟩ := h; exact ⟨rfl, rfl, h⟩
  · obtain ⟨rfl, rfl, h⟩ := h
    refine ⟨rfl, rfl, fun i j hi hj => ?_⟩
    have hj' : j < 1 := hj
    obtain rfl : j = 0 := by omega
    show avle s (ci _ _ i 0) true _
    rw [show ((Ct.tab _ 1 _).cell i 0) = _ from h i hi]
    exact ⟨rfl, rfl⟩
  · obtain ⟨rfl, rfl, h⟩ := h
    refine ⟨rfl, rfl, fun i j hi hj => ?_⟩
    have hj' : j < 1 := hj
    obtain rfl : j = 0 := by omega
    rw [show ((Ct.tab _ 1 _).cell i 0) = _ from h i hi]
    exact ⟨rfl, rfl⟩
  · exact h.elim
/-- Slices of one's own in cells. -/
theorem avle_sub {x y : AV} (h : avle s x true y) : (∀ z, x.sub = some z → ∃ z', y.sub = some z' ∧ blle s z z') ∧ (∀ z', y.sub = some z' → (∃ z, x.sub = some z ∧ blle s z z') ∨ (x = .nl ∧ ∃ e c, z' = .row e c ∧ c.len = 0)) := by
  cases x with
  | oi e k xs =>
    unfold avle at h
    split at h
    · obtain ⟨_, rfl, rfl, rfl⟩ := h
      exact ⟨fun z hz => ⟨_, rfl, (by cases hz; exact ⟨rfl, rfl, rfl⟩)⟩, fun z' hz => .inl ⟨_, rfl, (by cases hz; exact ⟨rfl, rfl, rfl⟩)⟩⟩
    · exact h.elim
  | ow e n st cell =>
    unfold avle at h
    split at h
    · obtain ⟨_, rfl, rfl, rfl, h⟩ := h
      exact ⟨fun z hz => ⟨_, rfl, (by cases hz; exact ⟨rfl, rfl, rfl, h⟩)⟩, fun z' hz => .inl ⟨_, rfl, (by cases hz; exact ⟨rfl, rfl, rfl, h⟩)⟩⟩
    · exact h.elim
  | nl =>
    refine ⟨fun z hz => (by cases hz), fun z' hz => .inr ⟨rfl, ?_⟩⟩
    unfold avle at h
    split at h <;> first | (cases hz; done) | exact h.elim | skip
    · cases hz; exact ⟨_, _, rfl, by rw [h.2]; rfl⟩
    · cases hz; exact ⟨_, _, rfl, h.2⟩
  | _ =>
    refine ⟨fun z hz => (by cases hz), fun z' hz => ?_⟩
    unfold avle at h
    split at h <;> first | (cases hz; done) | exact h.elim
/-- What lies where. -/
theorem blle_at : ∀ {p : List (Nat × Nat)} {x y z' : Blk}, blle s x y → y.At p z' → (∃ z, x.At p z ∧ blle s z z') ∨ ((∃ q i j e c, p = q ++ [(i, j)] ∧ x.At q (.row e c) ∧ i < c.len ∧ j < c.st ∧ c.cell i j = .nl) ∧ ∃ e c, z' = .row e c ∧ c.len = 0) := by
  intro p
  induction p with
  | nil => intro x y z' h hz; cases hz; exact .inl ⟨x, rfl, h⟩
  | cons q p ih =>
    obtain ⟨i, j⟩ := q
    rintro x y z' h ⟨e, c', y1, rfl, h1, h2, h3, h4⟩
    cases x with
    | box l => exact h.elim
    | mp t m => exact h.elim
    | row e0 c =>
      obtain ⟨rfl, hc⟩ := h
      obtain ⟨g1, g2, g3⟩ := ctle_spec hc
      have hcij := g3 i j (by omega) (by omega)
      rcases (avle_sub hcij).2 y1 h3 with ⟨x1, k1, k2⟩ | ⟨k1, e1, c1, rfl, k2⟩
      · rcases ih k2 h4 with ⟨z, k3, k4⟩ | ⟨⟨q, i', j', e', c'', rfl, k3, k5, k6, k7⟩, k4⟩
        · exact .inl ⟨z, ⟨_, c, x1, rfl, by omega, by omega, k1, k3⟩, k4⟩
        · exact .inr ⟨⟨(i, j) :: q, i', j', e', c'', rfl, ⟨_, c, x1, rfl, by omega, by omega, k1, k3⟩, k5, k6, k7⟩, k4⟩
      · cases p with
        | nil => cases h4; exact .inr ⟨⟨[], i, j, _, c, rfl, rfl, by omega, by omega, k1⟩, _, _, rfl, k2⟩
        | cons q p =>
          obtain ⟨i', j'⟩ := q
          obtain ⟨e5, c5, y5, k3, k4, _⟩ := h4
          cases k3; omega
theorem blle_at2 : ∀ {p : List (Nat × Nat)} {x y z : Blk}, blle s x y → x.At p z → ∃ z', y.At p z' := by
  intro p
  induction p with
  | nil => intro x y z h hz; exact ⟨y, rfl⟩
  | cons q p ih =>
    obtain ⟨i, j⟩ := q
    rintro x y z h ⟨e, c, x1, rfl, h1, h2, h3, h4⟩
    cases y with
    | box l => exact h.elim
    | mp t m => exact h.elim
    | row e0 c' =>
      obtain ⟨rfl, hc⟩ := h
      obtain ⟨g1, g2, g3⟩ := ctle_spec hc
      obtain ⟨z1, k1, k2⟩ := (avle_sub (g3 i j h1 h2)).1 x1 h3
      obtain ⟨z', hz'⟩ := ih k2 h4
      exact ⟨z', _, c', z1, rfl, by omega, by omega, k1, hz'⟩

theorem blle_has {x y : Blk} (h : blle s x y) : ∀ N, y.has N → x.has N ∨ (N.p = [] ∧ s.rblk N.r = none) := by
  intro N hN
  cases x with
  | box l => cases y with | box m => exact avle_has h N hN | _ => exact h.elim
  | mp t m => cases y with | mp t m => exact hN.elim | _ => exact h.elim
  | row e c =>
    cases y with
    | row e' c' =>
      obtain ⟨rfl, hc⟩ := h
      obtain ⟨g1, g2, g3⟩ := ctle_spec hc
      obtain ⟨k, j, hk, hj, hM⟩ := hN
      exact (avle_has (g3 k j (by omega) (by omega)) N hM).imp (fun h => ⟨k, j, by omega, by omega, h⟩) id
    | _ => exact h.elim
/-- What is new may be told as not new. -/
theorem Reps.soft {own : Bool → Nat → Prop} (hT : ∀ b, ¬ own true b → ¬ own false b) : ∀ {a : AV} {vs : List Value}, Reps w own γ a (.r true) vs → Reps w own γ a (.r false) vs := by
  have fl : ∀ {f : Bool} {b : Nat}, ¬ own true b → ¬ own (false || f) b := fun {f b} h => by cases f with | false => exact hT b h | true => exact h
  have deep : ∀ {a : AV} {f : Bool} {vs : List Value}, Reps w own γ a (.r true) vs → Reps w own γ a (.r f) vs := by
    intro a
    induction a with
    | cons a l iha ihl => rintro f vs ⟨v, us, e, h1, h2⟩; exact ⟨v, us, e, iha h1, ihl h2⟩
    | agg l ih => rintro f vs ⟨us, e, h1⟩; exact ⟨us, e, ih h1⟩
    | tup l ih => rintro f vs ⟨us, e, h1⟩; exact ⟨us, e, ih h1⟩
    | fn q l ih => rintro f vs ⟨us, e, h1⟩; exact ⟨us, e, ih h1⟩
    | op L j => rintro f vs ⟨r, e⟩; cases r
    | om L => rintro f vs ⟨r, e⟩; cases r
    | os L => rintro f vs ⟨r, e⟩; cases r
    | oe L st k j => rintro f vs ⟨r, e⟩; cases r
    | ri f' q xs =>
      rintro f vs ⟨A, cap, e, hc, h1⟩
      refine ⟨A, cap, e, hc, fun hn => ?_⟩
      obtain ⟨bk, o, e1, h2, h3, h4⟩ := h1 hn
      exact ⟨bk, o, e1, h2, by cases f <;> cases f' <;> first | exact h3 | exact hT _ h3, h4⟩
    | rs f' n st cell ih =>
      rintro f vs ⟨A, cap, e, hc, h1⟩
      refine ⟨A, cap, e, hc, fun hn => ?_⟩
      obtain ⟨bk, o, e1, h2, h3, h4⟩ := h1 hn
      refine ⟨bk, o, e1, h2, by cases f <;> cases f' <;> first | exact h3 | exact hT _ h3, fun k j hk hj => ?_⟩
      obtain ⟨u, h5, ho, h6⟩ := h4 k j hk hj
      exact ⟨u, h5, ho, ih k j h6⟩
    | rp f' n st cell k0 j0 ih =>
      rintro f vs ⟨bk, o, e1, h0, h2, h3, h4⟩
      refine ⟨bk, o, e1, h0, h2, by cases f <;> cases f' <;> first | exact h3 | exact hT _ h3, fun k j hk hj => ?_⟩
      obtain ⟨u, h5, ho, h6⟩ := h4 k j hk hj
      exact ⟨u, h5, ho, ih k j h6⟩
    | _ => intro f vs h1; exact h1
  intro a vs h
  exact deep h
/-- A value that tells less. -/
theorem avle_sound {own own' : Bool → Nat → Prop} {γ' : Nm → Value} (hO : ∀ f b, ¬ own f b → ¬ own' f b) (hT : ∀ b, ¬ own' true b → ¬ own' false b) (hg : ∀ N, s.lv N → γ' N = γ N) (hn : ∀ L, s.rblk L = none → γ' (rt L) = .slice none 0 0) :
    ∀ {x : AV} {cl : Bool} {y : AV} {vs : List Value}, avle s x cl y → s.live x → (cl = true → y.sub = none) → Reps w own γ x .o vs → Reps w own' γ' y .o vs := by
  have flg : ∀ {f g : Bool} {b : Nat}, (g = false ∨ f = g) → ¬ own f b → ¬ own' g b := by
    intro f g b h h1
    rcases h with rfl | rfl
    · have h2 := hO _ _ h1
      cases f with
      | false => exact h2
      | true => exact hT _ h2
    · exact hO _ _ h1
  have KP : Keeps w w own own' := ⟨Nat.le_refl _, fun _ _ _ _ => rfl, fun f b _ hn => hO f b hn⟩
  have top : ∀ {x : AV} {vs : List Value}, Reps w own γ x .o vs → x.len = 1 → Reps w own' γ' .top .o vs := by
    intro x vs h hl
    have := h.len
    rw [hl] at this
    match vs, this with
    | [v], _ => exact ⟨v, rfl⟩
  have down : ∀ {f g : Bool} {a : AV} {u : Value}, (g = false ∨ f = g) → Reps w own γ a (.r f) [u] → Reps w own' γ' a (.r g) [u] := by
    intro f g a u h h1
    have h2 : Reps w own' γ a (.r f) [u] := h1.keep KP
    rcases h with rfl | rfl
    · cases f with
      | false => exact h2.gam_ro
      | true => exact (h2.soft hT).gam_ro
    · exact h2.gam_ro
  intro x
  induction x with
  | cons a l iha ihl =>
    intro cl y vs h hl hs hr
    unfold avle at h
    split at h
    · obtain ⟨v, us, e, h1, h2⟩ := hr
      exact ⟨v, us, e, iha h.1 (fun N hN => hl N (.inl hN)) (fun h => by cases h) h1, ihl h.2 (fun N hN => hl N (.inr hN)) (fun h => by cases h) h2⟩
    · exact h.elim
  | agg l ih =>
    intro cl y vs h hl hs hr
    unfold avle at h
    split at h
    · obtain ⟨us, e, h1⟩ := hr
      exact ⟨us, e, ih h hl (fun h => by cases h) h1⟩
    · exact top hr rfl
    · exact h.elim
  | tup l ih =>
    intro cl y vs h hl hs hr
    unfold avle at h
    split at h
    · obtain ⟨us, e, h1⟩ := hr
      exact ⟨us, e, ih h hl (fun h => by cases h) h1⟩
    · exact top hr rfl
    · exact h.elim
  | fn f l ih =>
    intro cl y vs h hl hs hr
    unfold avle at h
    split at h
    · obtain ⟨us, e, h1⟩ := hr
      obtain ⟨rfl, h⟩ := h
      exact ⟨us, e, ih h hl (fun h => by cases h) h1⟩
    · exact top hr rfl
    · exact h.elim
  | nil => intro cl y vs h hl hs hr; unfold avle at h; split at h <;> first | exact hr | exact h.elim
  | int k n => intro cl y vs h hl hs hr; unfold avle at h; split at h <;> first | (obtain ⟨rfl, rfl⟩ := h; exact hr) | exact top hr rfl | exact h.elim
  | b x => intro cl y vs h hl hs hr; unfold avle at h; split at h <;> first | (subst h; exact hr) | exact top hr rfl | exact h.elim
  | tt => intro cl y vs h hl hs hr; unfold avle at h; split at h <;> first | (subst h; exact hr) | exact hr | exact top hr rfl | exact h.elim
  | ff => intro cl y vs h hl hs hr; unfold avle at h; split at h <;> first | (subst h; exact hr) | exact hr | exact top hr rfl | exact h.elim
  | s x => intro cl y vs h hl hs hr; unfold avle at h; split at h <;> first | (subst h; exact hr) | exact top hr rfl | exact h.elim
  | c v => intro cl y vs h hl hs hr; unfold avle at h; split at h <;> first | (subst h; exact hr) | exact top hr rfl | exact h.elim
  | top => intro cl y vs h hl hs hr; unfold avle at h; split at h <;> first | exact hr | exact h.elim
  | nl =>
    intro cl y vs h hl hs hr
    have hr' : vs = [.slice none 0 0] := hr
    unfold avle at h
    split at h
    · exact hr
    · exact ⟨none, hr'⟩
    · rename_i N
      have eN : N = rt N.r := by obtain ⟨r, p⟩ := N; have := h.1; simp only at this; rw [this]
      refine ⟨rfl, ?_⟩
      rw [eN, hn _ h.2]; exact hr'
    · subst h; exact ⟨none, 0, hr', Nat.le_refl _, fun h => by cases h⟩
    · subst h; exact ⟨none, 0, hr', Nat.le_refl _, fun h => by cases h⟩
    · have := hs h.1; cases this
    · have := hs h.1; cases this
    · exact top hr rfl
    · exact h.elim
  | e0 =>
    intro cl y vs h hl hs hr
    unfold avle at h
    obtain ⟨A, hr'⟩ := hr
    split at h
    · exact ⟨A, hr'⟩
    · subst h; exact ⟨A, 0, hr', Nat.le_refl _, fun h => by cases h⟩
    · subst h; exact ⟨A, 0, hr', Nat.le_refl _, fun h => by cases h⟩
    · exact top (x := .e0) ⟨A, hr'⟩ rfl
    · exact h.elim
  | ri f k xs =>
    intro cl y vs h hl hs hr
    unfold avle at h
    split at h
    · obtain ⟨hf, rfl, rfl⟩ := h
      obtain ⟨A, cap, e, hc, h1⟩ := hr
      refine ⟨A, cap, e, hc, fun hn => ?_⟩
      obtain ⟨bk, o, e1, h2, h3, h4⟩ := h1 hn
      exact ⟨bk, o, e1, h2, flg hf h3, h4⟩
    · exact top hr rfl
    · exact h.elim
  | rs f n st cell ih =>
    intro cl y vs h hl hs hr
    unfold avle at h
    split at h
    · obtain ⟨hf, rfl, rfl, hcell⟩ := h
      obtain ⟨A, cap, e, hc, h1⟩ := hr
      refine ⟨A, cap, e, hc, fun hn => ?_⟩
      obtain ⟨bk, o, e1, h2, h3, h4⟩ := h1 hn
      refine ⟨bk, o, e1, h2, flg hf h3, fun i j hi hj => ?_⟩
      obtain ⟨u, h5, ho, h6⟩ := h4 i j hi hj
      exact ⟨u, h5, ho, by rw [← hcell i j hi hj]; exact down hf h6⟩
    · exact top hr rfl
    · exact h.elim
  | rp f n st cell i0 j0 ih =>
    intro cl y vs h hl hs hr
    unfold avle at h
    split at h
    · obtain ⟨hf, rfl, rfl, rfl, rfl, hcell⟩ := h
      obtain ⟨bk, o, e1, h0, h2, h3, h4⟩ := hr
      refine ⟨bk, o, e1, h0, h2, flg hf h3, fun i j hi hj => ?_⟩
      obtain ⟨u, h5, ho, h6⟩ := h4 i j hi hj
      exact ⟨u, h5, ho, by rw [← hcell i j hi hj]; exact down hf h6⟩
    · exact top hr rfl
    · exact h.elim
  | op N j =>
    intro cl y vs h hl hs hr
    unfold avle at h
    split at h
    · obtain ⟨rfl, rfl⟩ := h
      obtain ⟨_, e, h1⟩ := hr
      rw [← hg N (hl N rfl)] at e h1
      exact ⟨rfl, e, h1⟩
    · exact top hr rfl
    · exact h.elim
  | om N =>
    intro cl y vs h hl hs hr
    unfold avle at h
    split at h
    · subst h
      obtain ⟨_, e⟩ := hr
      exact ⟨rfl, by rw [hg _ (hl _ rfl)]; exact e⟩
    · exact top hr rfl
    · exact h.elim
  | os N =>
    intro cl y vs h hl hs hr
    unfold avle at h
    split at h
    · subst h
      obtain ⟨_, e⟩ := hr
      exact ⟨rfl, by rw [hg _ (hl _ rfl)]; exact e⟩
    · exact top hr rfl
    · exact h.elim
  | oe N st k j =>
    intro cl y vs h hl hs hr
    unfold avle at h
    split at h
    · obtain ⟨rfl, rfl, rfl, rfl⟩ := h
      obtain ⟨_, e, h1⟩ := hr
      rw [← hg N (hl N rfl)] at e h1
      exact ⟨rfl, e, h1⟩
    · exact top hr rfl
    · exact h.elim
  | _ => intro cl y vs h hl hs hr; exact hr.elim

/-- A state that tells less. -/
theorem St.Le.sim' (h : s.Le t) (hs : Sim E s a w γ) : ∃ γ', Sim E t a w γ' ∧ (∀ x y vs, avle s x false y → s.live x → Reps w (E.ow (s.own γ)) γ x .o vs → Reps w (E.ow (t.own γ')) γ' y .o vs) ∧ ∀ x y, avle s x false y → s.live x → y.within (names t.store) → t.live y := by
  classical
  let γ' : Nm → Value := fun N => if s.lv N then γ N else .slice none 0 0
  have hg : ∀ N, s.lv N → γ' N = γ N := fun N hN => if_pos hN
  have hn0 : ∀ N, ¬ s.lv N → γ' N = .slice none 0 0 := fun N hN => if_neg hN
  have hn : ∀ L, s.rblk L = none → γ' (rt L) = .slice none 0 0 := fun L hL => hn0 _ (fun hv => not_lv hL hv rfl)
  -- what lies where
  have C : ∀ N y, t.at N y → (∃ x, s.at N x ∧ blle s x y) ∨ (¬ s.lv N ∧ (low ≤ N.r ∨ N.p ≠ [])) ∧ ∃ e c, y = .row e c ∧ c.len = 0 := by
    rintro ⟨L, p⟩ y ⟨y0, h1, h2⟩
    have h3 := (leB_at h.store h1).1
    cases hx : s.rblk L with
    | some x =>
      rw [hx] at h3
      rcases blle_at h3 h2 with ⟨z, k1, k2⟩ | ⟨⟨q, i, j, e, c, rfl, k1, k2, k3, k4⟩, k5⟩
      · exact .inl ⟨z, ⟨x, hx, k1⟩, k2⟩
      · refine .inr ⟨⟨fun ⟨z, hz⟩ => ?_, .inr (by simp)⟩, k5⟩
        obtain ⟨e', c', g1, g2, g3, g4⟩ := kid_at (N := ⟨L, q⟩) hz
        have := AtL.uniq (lk := s.rblk) (N := ⟨L, q⟩) ⟨x, hx, k1⟩ g1
        cases this
        rw [k4] at g4; cases g4
    | none =>
      rw [hx] at h3
      cases y0 with
      | row e c =>
        have hl0 : c.len = 0 := h3.2
        cases p with
        | nil => cases h2; exact .inr ⟨⟨fun hv => not_lv hx hv rfl, .inl h3.1⟩, e, c, rfl, hl0⟩
        | cons q p => obtain ⟨i, j⟩ := q; obtain ⟨e', c', y', he, k1, _⟩ := h2; cases he; omega
      | _ => exact h3.2.elim
  have own' : ∀ b, t.own γ' b → s.own γ b := by
    rintro b ⟨N, y, hN, hb⟩
    rcases C N y hN with ⟨x, h1, _⟩ | ⟨h1, _⟩
    · rw [hg N ⟨x, h1⟩] at hb; exact ⟨N, x, h1, hb⟩
    · have hnl : ¬ s.lv N := h1.1
      rw [hn0 N hnl] at hb; cases hb
  have hO : ∀ f b, ¬ E.ow (s.own γ) f b → ¬ E.ow (t.own γ') f b := fun f b h1 h2 => h1 (h2.imp (own' b) id)
  have hT : ∀ b, ¬ E.ow (t.own γ') true b → ¬ E.ow (t.own γ') false b := fun b h1 h2 => h1 (ow_mono _ _ b h2)
  -- names of the new state
  have inN : ∀ L, L ∈ names t.store → ∃ y, t.rblk L = some y := fun L hL => by
    have := (List.all_eq_true.1 h.ok) L hL
    exact Option.isSome_iff_exists.1 this
  have lvt : ∀ N, (s.lv N ∨ (N.p = [] ∧ s.rblk N.r = none)) → N.r ∈ names t.store → t.lv N := by
    intro N hN hin
    obtain ⟨y, hy⟩ := inN N.r hin
    rcases hN with ⟨z, x, h1, h2⟩ | ⟨h1, h2⟩
    · have h3 := (leB_at h.store hy).1
      rw [h1] at h3
      obtain ⟨z', hz'⟩ := blle_at2 h3 h2
      exact ⟨z', y, hy, hz'⟩
    · exact ⟨y, y, hy, by rw [h1]; rfl⟩
  refine ⟨γ', hs.build (Step.same _ w) (by rw [← h.n]; exact hs.size) hs.defers (fun D y hD bk hb => .inr (own' bk ⟨D, y, hD, hb⟩)) (fun N M x y bk hN hM hb hc => ?_) (fun hk r => ?_) (fun hk N y hN => ?_) ⟨fun r N hN => ?_, fun M y N hM hN => ?_⟩ (fun L hL hlv => ?_), fun x y vs h1 h2 h3 => avle_sound hO hT hg hn h1 h2 (fun h => by cases h) h3, fun x y h1 h2 h3 N hN => lvt N ((avle_has h1 N hN).imp (h2 N) id) (within_has h3 hN)⟩
  · have f : ∀ {N y}, t.at N y → blkOf (γ' N) = some bk → ∃ x, s.at N x ∧ blkOf (γ N) = some bk := fun {N y} hN hb => by
      rcases C N y hN with ⟨x, h1, _⟩ | ⟨h1, _⟩
      · rw [hg N ⟨x, h1⟩] at hb; exact ⟨x, h1, hb⟩
      · have hnl : ¬ s.lv N := h1.1
        rw [hn0 N hnl] at hb; cases hb
    obtain ⟨x1, k1, k2⟩ := f hN hb
    obtain ⟨x2, k3, k4⟩ := f hM hc
    exact hs.inj N M x1 x2 bk k1 k3 k2 k4
  · rcases leS_at h.slots r with e | ⟨h1, _⟩
    · rw [show t.slot r = .top from e]; exact ⟨_, rfl⟩
    · exact avle_sound hO hT hg hn h1 (hs.wf.slot r) (fun h => by cases h) (hs.slots r)
  · rcases C N y hN with ⟨x, h1, h2⟩ | ⟨h1, e, c, rfl, h3⟩
    · have hb := hs.blks N x h1
      have hlv : ∀ M, x.has M → s.lv M := fun M hM => hs.wf.blk N x M h1 hM
      cases x with
      | box l =>
        cases y with
        | box m =>
          obtain ⟨bk, us, ty, e, g1, ho, g2⟩ := hb
          exact ⟨bk, us, ty, (hg N ⟨_, h1⟩).trans e, g1, ho, avle_sound hO hT hg hn h2 hlv (fun h => by cases h) g2⟩
        | _ => exact h2.elim
      | mp t0 m0 =>
        cases y with
        | mp t1 m1 =>
          obtain ⟨rfl, h2⟩ := h2
          obtain ⟨r, es, clock, e, g1, g2⟩ := hb
          refine ⟨r, es, clock, (hg N ⟨_, h1⟩).trans e, g1, ?_⟩
          rw [g2]
          unfold mcle at h2
          split at h2
          · obtain ⟨rfl, rfl⟩ := h2; rfl
          · subst h2; rfl
          · exact h2.elim
        | _ => exact h2.elim
      | row e0 c =>
        cases y with
        | row e1 c' =>
          obtain ⟨rfl, hc⟩ := h2
          obtain ⟨g1, g2, g3⟩ := ctle_spec hc
          rcases hb with ⟨k0, A, k1⟩ | ⟨bk, o, cap, us, k1, kp, k2, k3, k4, k5⟩
          · exact .inl ⟨by omega, A, (hg N ⟨_, h1⟩).trans k1⟩
          · refine .inr ⟨bk, o, cap, us, by rw [hg N ⟨_, h1⟩, ← g1]; exact k1, kp, by omega, k3, by rw [← g2]; exact k4, fun i j hi hj => ?_⟩
            obtain ⟨u, k6, ko, k7⟩ := k5 i j (by omega) (by omega)
            refine ⟨u, by rw [← g2]; exact k6, ko, ?_⟩
            have hcij := g3 i j (by omega) (by omega)
            unfold CellR
            cases hs' : (c'.cell i j).sub with
            | none =>
              have hsn : (c.cell i j).sub = none := by
                cases hs2 : (c.cell i j).sub with
                | none => rfl
                | some z => obtain ⟨z', hz', _⟩ := (avle_sub hcij).1 z hs2; rw [hs'] at hz'; cases hz'
              exact avle_sound hO hT hg hn hcij (fun M hM => hlv M ⟨i, j, by omega, by omega, hM⟩) (fun _ => hs') (k7.rep hsn)
            | some z' =>
              simp only
              rcases (avle_sub hcij).2 z' hs' with ⟨z, hz, _⟩ | ⟨hnl, _⟩
              · rw [k7.own hz, hg]
                exact ⟨z, at_kid h1 (by omega) (by omega) hz⟩
              · have hu := k7.rep (by rw [hnl]; rfl)
                rw [hnl] at hu
                have hu' : u = .slice none 0 0 := by simpa [Reps] using hu
                rw [hu', hn0]
                rintro ⟨z, hz⟩
                obtain ⟨e', c2, q1, q2, q3, q4⟩ := kid_at hz
                have := AtL.uniq h1 q1
                cases this
                rw [hnl] at q4; cases q4
        | _ => exact h2.elim
    · have hnl : ¬ s.lv N := h1.1
      exact .inl ⟨h3, none, hn0 N hnl⟩
  · rcases leS_at h.slots r with e | ⟨h1, h2⟩
    · rw [show t.slot r = .top from e] at hN; exact hN.elim
    · exact lvt N ((avle_has h1 N hN).imp (hs.wf.slot r N) id) (within_has h2 hN)
  · obtain ⟨y0, g1, g2⟩ := hM
    have hw := (leB_at h.store g1).2
    have hwy := within_at hw g2
    refine lvt N ?_ (withinB_has hwy hN)
    rcases C M y ⟨y0, g1, g2⟩ with ⟨x, h1, h2⟩ | ⟨_, e, c, rfl, h3⟩
    · exact (blle_has h2 N hN).imp (hs.wf.blk M x N h1) id
    · obtain ⟨k, j, hk, _⟩ := hN; omega
  · obtain ⟨y, hy⟩ := hlv
    rcases C (rt L) y hy with ⟨x, h1, _⟩ | ⟨h1, _⟩
    · rw [hg _ ⟨x, h1⟩]; exact hs.hd L hL ⟨x, h1⟩
    · rcases h1.2 with h2 | h2
      · have h3 : low ≤ L := h2; omega
      · exact absurd rfl h2
theorem St.Le.sim (h : s.Le t) (hs : Sim E s a w γ) : ∃ γ', Sim E t a w γ' := by
  obtain ⟨γ', h1, _⟩ := h.sim' hs
  exact ⟨γ', h1⟩
theorem St.Le.le (h : s.Le t) : s.le t := fun E a w ⟨γ, hs⟩ => h.sim hs
end
end Go.Proofs.Ytbncmiglhjfcdaa
