/-
  Values told by what they say: names, abstract values, what stands for them in a world, states of a function's frame and of the memory that it owns.
-/
import Derived.Test.YtbncmiglhjfcdaaRows
import Derived.WalkKit
import Derived.ProofKit
import Derived.Below
import Derived.Orders
namespace Go.Proofs.Ytbncmiglhjfcdaa
open Go.RowKit
set_option linter.unusedVariables false

/-- A name of memory that one owns: a block, or the block behind a slice that stands in a cell of another, and so on. -/
structure Nm where
  r : Nat
  p : List (Nat × Nat)
def Nm.kid (N : Nm) (i j : Nat) : Nm := ⟨N.r, N.p ++ [(i, j)]⟩
abbrev rt (L : Nat) : Nm := ⟨L, []⟩
instance : DecidableEq Nm := fun a b => match a, b with
  | ⟨r, p⟩, ⟨r', p'⟩ => if h : r = r' ∧ p = p' then isTrue (by rw [h.1, h.2]) else isFalse (fun e => h (by cases e; exact ⟨rfl, rfl⟩))

/-- What a value says. 'op', 'om': a pointer into a variable, a map of one's own; 'os', 'oe': a slice of one's own, a pointer to an element's cell; 'rs', 'rp': a slice that is only read, a pointer into one. 'nl', 'e0': the nil slice, a slice without room. 'nil', 'cons': rows of fields. 'oi', 'ow' (in a cell): a slice of one's own, with what it holds. -/
inductive AV where
  | int (k : IntKind) (n : Int)
  | b (x : Bool)
  | tt
  | ff
  | s (x : ByteArray)
  | c (v : Value)
  | top
  | nl
  | e0
  | nil
  | cons (a l : AV)
  | agg (l : AV)
  | tup (l : AV)
  | fn (f : Nat) (caps : AV)
  | op (N : Nm) (j : Nat)
  | om (N : Nm)
  | os (N : Nm)
  | oe (N : Nm) (st k j : Nat)
  | ri (f : Bool) (k : IntKind) (xs : List Int)
  | rs (f : Bool) (n st : Nat) (cell : Nat → Nat → AV)
  | rp (f : Bool) (n st : Nat) (cell : Nat → Nat → AV) (k j : Nat)
  | oi (e : Nat) (k : IntKind) (xs : List Int)
  | ow (e : Nat) (n st : Nat) (cell : Nat → Nat → AV)

/-- Where a value stands: in one's own frame and memory, or in memory that is only read (and new, or not). -/
inductive Md where
  | o
  | r (f : Bool)
def Md.fr : Md → Bool → Bool
  | .o, f => f
  | .r g, f => g || f

abbrev AV.i (n : Int) : AV := .int .i64 n

def blkOf : Value → Option Nat
  | .pointer (some a) => some a.block
  | .slice (some a) _ cap => if cap = 0 then none else some a.block
  | .map (some r) => some r
  | _ => none
def ptrAt : Value → Nat → Value
  | .pointer (some a), j => .pointer (some ⟨a.block, a.off + j, none⟩)
  | .slice (some a) _ _, j => .pointer (some ⟨a.block, a.off + j, none⟩)
  | _, _ => .pointer none

def real (v : Value) : Prop := ∃ bk o, ∀ j, ptrAt v j = .pointer (some ⟨bk, o + j, none⟩)

/-- These values stand for the row of fields; 'ro': inside memory that is only read. -/
def Reps (w : World) (own : Bool → Nat → Prop) (γ : Nm → Value) : AV → Md → List Value → Prop
  | .int k n, _, vs => vs = [.int k n]
  | .b x, _, vs => vs = [.bool x]
  | .tt, _, vs => vs = [.bool true]
  | .ff, _, vs => vs = [.bool false]
  | .s x, _, vs => vs = [.string x]
  | .c v, _, vs => vs = [v]
  | .top, _, vs => ∃ v, vs = [v]
  | .nl, _, vs => vs = [.slice none 0 0]
  | .e0, _, vs => ∃ A, vs = [.slice A 0 0]
  | .nil, _, vs => vs = []
  | .cons a l, ro, vs => ∃ v us, vs = v :: us ∧ Reps w own γ a ro [v] ∧ Reps w own γ l ro us
  | .agg l, ro, vs => ∃ us : List Value, vs = [.agg us.toArray] ∧ Reps w own γ l ro us
  | .tup l, ro, vs => ∃ us : List Value, vs = [.tuple us.toArray] ∧ Reps w own γ l ro us
  | .fn f l, ro, vs => ∃ us : List Value, vs = [.func (.func f) #[] us.toArray] ∧ Reps w own γ l ro us
  | .op N j, ro, vs => ro = .o ∧ vs = [ptrAt (γ N) j] ∧ real (γ N)
  | .om N, ro, vs => ro = .o ∧ vs = [γ N]
  | .os N, ro, vs => ro = .o ∧ vs = [γ N]
  | .oe N st k j, ro, vs => ro = .o ∧ vs = [ptrAt (γ N) (k * st + j)] ∧ real (γ N)
  | .ri f q xs, ro, vs => ∃ A cap, vs = [.slice A xs.length cap] ∧ xs.length ≤ cap ∧ (0 < xs.length → ∃ bk o, A = some ⟨bk, o, none⟩ ∧ bk < w.heap.size ∧ ¬ own (ro.fr f) bk ∧
      ∀ k, k < xs.length → w.cell? ⟨bk, o + k, none⟩ = some (.int q (xs.getD k 0)))
  | .rs f n st cell, ro, vs => ∃ A cap, vs = [.slice A n cap] ∧ n ≤ cap ∧ (0 < n → ∃ bk o, A = some ⟨bk, o, none⟩ ∧ bk < w.heap.size ∧ ¬ own (ro.fr f) bk ∧
      ∀ k j, k < n → j < st → ∃ u, w.cell? ⟨bk, o + (k * st + j), none⟩ = some u ∧ u.oneCell' = true ∧ Reps w own γ (cell k j) (.r (ro.fr f)) [u])
  | .rp f n st cell k j, ro, vs => ∃ bk o, vs = [.pointer (some ⟨bk, o + (k * st + j), none⟩)] ∧ k < n ∧ bk < w.heap.size ∧ ¬ own (ro.fr f) bk ∧
      ∀ k j, k < n → j < st → ∃ u, w.cell? ⟨bk, o + (k * st + j), none⟩ = some u ∧ u.oneCell' = true ∧ Reps w own γ (cell k j) (.r (ro.fr f)) [u]
  | .oi _ _ _, _, _ => False
  | .ow _ _ _ _, _, _ => False

def AV.has (N : Nm) : AV → Prop
  | .cons a l => a.has N ∨ l.has N
  | .agg l => l.has N
  | .tup l => l.has N
  | .fn _ l => l.has N
  | .op M _ => M = N
  | .om M => M = N
  | .os M => M = N
  | .oe M _ _ _ => M = N
  | _ => False

/-- Memory that is read is as it was. -/
structure Keeps (w w' : World) (own own' : Bool → Nat → Prop) : Prop where
  size : w.heap.size ≤ w'.heap.size
  block : ∀ f k, k < w.heap.size → ¬ own f k → w'.heap[k]? = w.heap[k]?
  own : ∀ f k, k < w.heap.size → ¬ own f k → ¬ own' f k

theorem Keeps.cell {w w' : World} {own own' : Bool → Nat → Prop} (h : Keeps w w' own own') {f : Bool} {bk o : Nat} (hb : bk < w.heap.size) (ho : ¬ own f bk) : w'.cell? ⟨bk, o, none⟩ = w.cell? ⟨bk, o, none⟩ :=
  World.cell?_of_block (w := w) (h.block f bk hb ho)

theorem Reps.keep {w w' : World} {own own' : Bool → Nat → Prop} (h : Keeps w w' own own') {γ : Nm → Value} : ∀ {a : AV} {ro : Md} {vs : List Value}, Reps w own γ a ro vs → Reps w' own' γ a ro vs := by
  intro a
  induction a with
  | cons a l iha ihl =>
    rintro ro vs ⟨v, us, e, h1, h2⟩
    exact ⟨v, us, e, iha h1, ihl h2⟩
  | agg l ih => rintro ro vs ⟨us, e, h1⟩; exact ⟨us, e, ih h1⟩
  | tup l ih => rintro ro vs ⟨us, e, h1⟩; exact ⟨us, e, ih h1⟩
  | fn f l ih => rintro ro vs ⟨us, e, h1⟩; exact ⟨us, e, ih h1⟩
  | rs f n st cell ih =>
    rintro ro vs ⟨A, cap, e, hc, h1⟩
    refine ⟨A, cap, e, hc, fun hn => ?_⟩
    obtain ⟨bk, o, e1, h2, h3, h4⟩ := h1 hn
    refine ⟨bk, o, e1, Nat.lt_of_lt_of_le h2 h.size, h.own _ bk h2 h3, fun k j hk hj => ?_⟩
    obtain ⟨u, h5, ho, h6⟩ := h4 k j hk hj
    exact ⟨u, (h.cell h2 h3).trans h5, ho, ih k j h6⟩
  | ri f q xs =>
    rintro ro vs ⟨A, cap, e, hc, h1⟩
    refine ⟨A, cap, e, hc, fun hn => ?_⟩
    obtain ⟨bk, o, e1, h2, h3, h4⟩ := h1 hn
    exact ⟨bk, o, e1, Nat.lt_of_lt_of_le h2 h.size, h.own _ bk h2 h3, fun k hk => (h.cell h2 h3).trans (h4 k hk)⟩
  | rp f n st cell k0 j0 ih =>
    rintro ro vs ⟨bk, o, e1, h0, h2, h3, h4⟩
    refine ⟨bk, o, e1, h0, Nat.lt_of_lt_of_le h2 h.size, h.own _ bk h2 h3, fun k j hk hj => ?_⟩
    obtain ⟨u, h5, ho, h6⟩ := h4 k j hk hj
    exact ⟨u, (h.cell h2 h3).trans h5, ho, ih k j h6⟩
  | _ => intro ro vs h1; exact h1

theorem Reps.gam {w : World} {own : Bool → Nat → Prop} {γ γ' : Nm → Value} : ∀ {a : AV} {ro : Md} {vs : List Value}, (ro = .o → ∀ L, a.has L → γ' L = γ L) → Reps w own γ a ro vs → Reps w own γ' a ro vs := by
  intro a
  induction a with
  | cons a l iha ihl =>
    rintro ro vs hg ⟨v, us, e, h1, h2⟩
    exact ⟨v, us, e, iha (fun r L hL => hg r L (.inl hL)) h1, ihl (fun r L hL => hg r L (.inr hL)) h2⟩
  | agg l ih => rintro ro vs hg ⟨us, e, h1⟩; exact ⟨us, e, ih hg h1⟩
  | tup l ih => rintro ro vs hg ⟨us, e, h1⟩; exact ⟨us, e, ih hg h1⟩
  | fn f l ih => rintro ro vs hg ⟨us, e, h1⟩; exact ⟨us, e, ih hg h1⟩
  | op L j => rintro ro vs hg ⟨r, e, h1⟩; exact ⟨r, by rw [hg r L rfl]; exact ⟨e, h1⟩⟩
  | om L => rintro ro vs hg ⟨r, e⟩; exact ⟨r, by rw [hg r L rfl]; exact e⟩
  | os L => rintro ro vs hg ⟨r, e⟩; exact ⟨r, by rw [hg r L rfl]; exact e⟩
  | oe L st k j => rintro ro vs hg ⟨r, e, h1⟩; exact ⟨r, by rw [hg r L rfl]; exact ⟨e, h1⟩⟩
  | rs f n st cell ih =>
    rintro ro vs hg ⟨A, cap, e, hc, h1⟩
    refine ⟨A, cap, e, hc, fun hn => ?_⟩
    obtain ⟨bk, o, e1, h2, h3, h4⟩ := h1 hn
    refine ⟨bk, o, e1, h2, h3, fun k j hk hj => ?_⟩
    obtain ⟨u, h5, ho, h6⟩ := h4 k j hk hj
    exact ⟨u, h5, ho, ih k j (fun r => by cases r) h6⟩
  | rp f n st cell k0 j0 ih =>
    rintro ro vs hg ⟨bk, o, e1, h0, h2, h3, h4⟩
    refine ⟨bk, o, e1, h0, h2, h3, fun k j hk hj => ?_⟩
    obtain ⟨u, h5, ho, h6⟩ := h4 k j hk hj
    exact ⟨u, h5, ho, ih k j (fun r => by cases r) h6⟩
  | _ => intro ro vs hg h1; exact h1

/-- What is only read may be looked at as if it were not. -/
theorem Reps.ro {w : World} {own : Bool → Nat → Prop} {γ : Nm → Value} {g : Bool} (hm : ∀ b, own false b → own true b) : ∀ {a : AV} {vs : List Value}, Reps w own γ a (.r g) vs → Reps w own γ a .o vs := by
  have mono : ∀ f g b, ¬ own (g || f) b → ¬ own f b := fun f g b h h1 => h (by cases f <;> cases g <;> first | exact h1 | exact hm b h1)
  have deep : ∀ {a : AV} {f g : Bool} {vs : List Value}, Reps w own γ a (.r (g || f)) vs → Reps w own γ a (.r f) vs := by
    intro a
    induction a with
    | cons a l iha ihl => rintro f g vs ⟨v, us, e, h1, h2⟩; exact ⟨v, us, e, iha h1, ihl h2⟩
    | agg l ih => rintro f g vs ⟨us, e, h1⟩; exact ⟨us, e, ih h1⟩
    | tup l ih => rintro f g vs ⟨us, e, h1⟩; exact ⟨us, e, ih h1⟩
    | fn q l ih => rintro f g vs ⟨us, e, h1⟩; exact ⟨us, e, ih h1⟩
    | op L j => rintro f g vs ⟨r, e⟩; cases r
    | om L => rintro f g vs ⟨r, e⟩; cases r
    | os L => rintro f g vs ⟨r, e⟩; cases r
    | oe L st k j => rintro f g vs ⟨r, e⟩; cases r
    | ri f' q xs =>
      rintro f g vs ⟨A, cap, e, hc, h1⟩
      refine ⟨A, cap, e, hc, fun hn => ?_⟩
      obtain ⟨bk, o, e1, h2, h3, h4⟩ := h1 hn
      exact ⟨bk, o, e1, h2, mono _ g _ (by have h7 := h3; simp only [Md.fr, Bool.or_assoc] at h7 ⊢; exact h7), h4⟩
    | rs f' n st cell ih =>
      rintro f g vs ⟨A, cap, e, hc, h1⟩
      refine ⟨A, cap, e, hc, fun hn => ?_⟩
      obtain ⟨bk, o, e1, h2, h3, h4⟩ := h1 hn
      refine ⟨bk, o, e1, h2, mono _ g _ (by have h7 := h3; simp only [Md.fr, Bool.or_assoc] at h7 ⊢; exact h7), fun k j hk hj => ?_⟩
      obtain ⟨u, h5, ho, h6⟩ := h4 k j hk hj
      exact ⟨u, h5, ho, ih k j (g := g) (by have h7 := h6; simp only [Md.fr, Bool.or_assoc] at h7 ⊢; exact h7)⟩
    | rp f' n st cell k0 j0 ih =>
      rintro f g vs ⟨bk, o, e1, h0, h2, h3, h4⟩
      refine ⟨bk, o, e1, h0, h2, mono _ g _ (by have h7 := h3; simp only [Md.fr, Bool.or_assoc] at h7 ⊢; exact h7), fun k j hk hj => ?_⟩
      obtain ⟨u, h5, ho, h6⟩ := h4 k j hk hj
      exact ⟨u, h5, ho, ih k j (g := g) (by have h7 := h6; simp only [Md.fr, Bool.or_assoc] at h7 ⊢; exact h7)⟩
    | _ => intro f g vs h1; exact h1
  intro a
  induction a with
  | cons a l iha ihl => rintro vs ⟨v, us, e, h1, h2⟩; exact ⟨v, us, e, iha h1, ihl h2⟩
  | agg l ih => rintro vs ⟨us, e, h1⟩; exact ⟨us, e, ih h1⟩
  | tup l ih => rintro vs ⟨us, e, h1⟩; exact ⟨us, e, ih h1⟩
  | fn f l ih => rintro vs ⟨us, e, h1⟩; exact ⟨us, e, ih h1⟩
  | op L j => rintro vs ⟨r, e⟩; cases r
  | om L => rintro vs ⟨r, e⟩; cases r
  | os L => rintro vs ⟨r, e⟩; cases r
  | oe L st k j => rintro vs ⟨r, e⟩; cases r
  | ri f' q xs =>
    rintro vs ⟨A, cap, e, hc, h1⟩
    refine ⟨A, cap, e, hc, fun hn => ?_⟩
    obtain ⟨bk, o, e1, h2, h3, h4⟩ := h1 hn
    exact ⟨bk, o, e1, h2, mono _ g _ h3, h4⟩
  | rs f' n st cell ih =>
    rintro vs ⟨A, cap, e, hc, h1⟩
    refine ⟨A, cap, e, hc, fun hn => ?_⟩
    obtain ⟨bk, o, e1, h2, h3, h4⟩ := h1 hn
    refine ⟨bk, o, e1, h2, mono _ g _ h3, fun k j hk hj => ?_⟩
    obtain ⟨u, h5, ho, h6⟩ := h4 k j hk hj
    exact ⟨u, h5, ho, deep (g := g) h6⟩
  | rp f' n st cell k0 j0 ih =>
    rintro vs ⟨bk, o, e1, h0, h2, h3, h4⟩
    refine ⟨bk, o, e1, h0, h2, mono _ g _ h3, fun k j hk hj => ?_⟩
    obtain ⟨u, h5, ho, h6⟩ := h4 k j hk hj
    exact ⟨u, h5, ho, deep (g := g) h6⟩
  | _ => intro vs h1; exact h1

/-- What is only read, seen by one who owns something else (or nothing). -/
theorem Reps.bare {w : World} {own own' : Bool → Nat → Prop} {γ γ' : Nm → Value} (hm : ∀ g g' b, b < w.heap.size → ¬ own g b → ¬ own' g' b) : ∀ {a : AV} {g g' : Bool} {vs : List Value}, Reps w own γ a (.r g) vs → Reps w own' γ' a (.r g') vs := by
  intro a
  induction a with
  | cons a l iha ihl => rintro g g' vs ⟨v, us, e, h1, h2⟩; exact ⟨v, us, e, iha h1, ihl h2⟩
  | agg l ih => rintro g g' vs ⟨us, e, h1⟩; exact ⟨us, e, ih h1⟩
  | tup l ih => rintro g g' vs ⟨us, e, h1⟩; exact ⟨us, e, ih h1⟩
  | fn f l ih => rintro g g' vs ⟨us, e, h1⟩; exact ⟨us, e, ih h1⟩
  | op L j => rintro g g' vs ⟨r, e⟩; cases r
  | om L => rintro g g' vs ⟨r, e⟩; cases r
  | os L => rintro g g' vs ⟨r, e⟩; cases r
  | oe L st k j => rintro g g' vs ⟨r, e⟩; cases r
  | ri f' q xs =>
    rintro g g' vs ⟨A, cap, e, hc, h1⟩
    refine ⟨A, cap, e, hc, fun hn => ?_⟩
    obtain ⟨bk, o, e1, h2, h3, h4⟩ := h1 hn
    exact ⟨bk, o, e1, h2, hm _ _ bk h2 h3, h4⟩
  | rs f' n st cell ih =>
    rintro g g' vs ⟨A, cap, e, hc, h1⟩
    refine ⟨A, cap, e, hc, fun hn => ?_⟩
    obtain ⟨bk, o, e1, h2, h3, h4⟩ := h1 hn
    refine ⟨bk, o, e1, h2, hm _ _ bk h2 h3, fun k j hk hj => ?_⟩
    obtain ⟨u, h5, ho, h6⟩ := h4 k j hk hj
    exact ⟨u, h5, ho, ih k j h6⟩
  | rp f' n st cell k0 j0 ih =>
    rintro g g' vs ⟨bk, o, e1, h0, h2, h3, h4⟩
    refine ⟨bk, o, e1, h0, h2, hm _ _ bk h2 h3, fun k j hk hj => ?_⟩
    obtain ⟨u, h5, ho, h6⟩ := h4 k j hk hj
    exact ⟨u, h5, ho, ih k j h6⟩
  | _ => intro g g' vs h1; exact h1

/-- All that is read is new. -/
def AV.new : AV → Prop
  | .cons a l => a.new ∧ l.new
  | .agg l => l.new
  | .tup l => l.new
  | .fn _ l => l.new
  | .ri f _ _ => f = true
  | .rs f _ _ _ => f = true
  | .rp f _ _ _ _ _ => f = true
  | .ow _ n st cell => ∀ i j, i < n → j < st → (cell i j).new
  | _ => True
theorem Reps.keepT {w w' : World} {own own' : Bool → Nat → Prop} {γ : Nm → Value} (hs : w.heap.size ≤ w'.heap.size) (hb : ∀ k, k < w.heap.size → ¬ own true k → w'.heap[k]? = w.heap[k]? ∧ ¬ own' true k) :
    ∀ {a : AV} {m : Md} {vs : List Value}, (a.new ∨ m = .r true) → Reps w own γ a m vs → Reps w' own' γ a m vs := by
  have hc : ∀ {bk o : Nat}, bk < w.heap.size → ¬ own true bk → w'.cell? ⟨bk, o, none⟩ = w.cell? ⟨bk, o, none⟩ := fun h1 h2 => World.cell?_of_block (w := w) (hb _ h1 h2).1
  intro a
  induction a with
  | cons a l iha ihl => rintro m vs hn ⟨v, us, e, h1, h2⟩; exact ⟨v, us, e, iha (hn.imp (·.1) id) h1, ihl (hn.imp (·.2) id) h2⟩
  | agg l ih => rintro m vs hn ⟨us, e, h1⟩; exact ⟨us, e, ih hn h1⟩
  | tup l ih => rintro m vs hn ⟨us, e, h1⟩; exact ⟨us, e, ih hn h1⟩
  | fn f l ih => rintro m vs hn ⟨us, e, h1⟩; exact ⟨us, e, ih hn h1⟩
  | ri f q xs =>
    rintro m vs hn ⟨A, cap, e, hc', h1⟩
    have hf : m.fr f = true := by
      rcases hn with h | rfl
      · have h' : f = true := h
        subst h'; cases m <;> simp [Md.fr]
      · rfl
    refine ⟨A, cap, e, hc', fun hn => ?_⟩
    obtain ⟨bk, o, e1, h2, h3, h4⟩ := h1 hn
    rw [hf] at h3 ⊢
    exact ⟨bk, o, e1, Nat.lt_of_lt_of_le h2 hs, (hb bk h2 h3).2, fun k hk => (hc h2 h3).trans (h4 k hk)⟩
  | rs f n st cell ih =>
    rintro m vs hn ⟨A, cap, e, hc', h1⟩
    have hf : m.fr f = true := by
      rcases hn with h | rfl
      · have h' : f = true := h
        subst h'; cases m <;> simp [Md.fr]
      · rfl
    refine ⟨A, cap, e, hc', fun hn => ?_⟩
    obtain ⟨bk, o, e1, h2, h3, h4⟩ := h1 hn
    rw [hf] at h3 h4 ⊢
    refine ⟨bk, o, e1, Nat.lt_of_lt_of_le h2 hs, (hb bk h2 h3).2, fun k j hk hj => ?_⟩
    obtain ⟨u, h5, ho, h6⟩ := h4 k j hk hj
    exact ⟨u, (hc h2 h3).trans h5, ho, ih k j (.inr rfl) h6⟩
  | rp f n st cell k0 j0 ih =>
    rintro m vs hn ⟨bk, o, e1, h0, h2, h3, h4⟩
    have hf : m.fr f = true := by
      rcases hn with h | rfl
      · have h' : f = true := h
        subst h'; cases m <;> simp [Md.fr]
      · rfl
    rw [hf] at h3 h4
    refine ⟨bk, o, e1, h0, Nat.lt_of_lt_of_le h2 hs, by rw [hf]; exact (hb bk h2 h3).2, fun k j hk hj => ?_⟩
    obtain ⟨u, h5, ho, h6⟩ := h4 k j hk hj
    exact ⟨u, (hc h2 h3).trans h5, ho, by rw [hf]; exact ih k j (.inr rfl) h6⟩
  | ow e n st cell ih => intro m vs hn h1; exact h1.elim
  | _ => intro m vs hn h1; exact h1

/-- A value that is read alone does not look at 'γ', and needs no block of one's own. -/
theorem Reps.gam_ro {w : World} {own : Bool → Nat → Prop} {γ γ' : Nm → Value} {a : AV} {g : Bool} {vs : List Value} (h : Reps w own γ a (.r g) vs) : Reps w own γ' a (.r g) vs := h.gam (fun r => by cases r)
theorem Reps.has_ro {w : World} {own : Bool → Nat → Prop} {γ : Nm → Value} {L : Nm} {g : Bool} : ∀ {a : AV} {vs : List Value}, Reps w own γ a (.r g) vs → ¬ a.has L := by
  intro a
  induction a with
  | cons a l iha ihl => rintro vs ⟨v, us, e, h1, h2⟩ hL; exact hL.elim (iha h1) (ihl h2)
  | agg l ih => rintro vs ⟨us, e, h1⟩; exact ih h1
  | tup l ih => rintro vs ⟨us, e, h1⟩; exact ih h1
  | fn f l ih => rintro vs ⟨us, e, h1⟩; exact ih h1
  | op M j => rintro vs ⟨r, e⟩; cases r
  | om M => rintro vs ⟨r, e⟩; cases r
  | os M => rintro vs ⟨r, e⟩; cases r
  | oe M st k j => rintro vs ⟨r, e⟩; cases r
  | _ => intro vs h1 hL; exact hL

/-- What a row holds. -/
inductive Ct where
  | ints (k : IntKind) (xs : List Int)
  | bools (xs : List Bool)
  | tab (n st : Nat) (cell : Nat → Nat → AV)
def Ct.len : Ct → Nat
  | .ints _ xs => xs.length
  | .bools xs => xs.length
  | .tab n _ _ => n
def Ct.st : Ct → Nat
  | .ints _ _ => 1
  | .bools _ => 1
  | .tab _ st _ => st
def ci (k : IntKind) (xs : List Int) (i j : Nat) : AV := .int k (xs.getD i 0)
def cb (xs : List Bool) (i j : Nat) : AV := .b (xs.getD i false)
def Ct.cell : Ct → Nat → Nat → AV
  | .ints k xs => ci k xs
  | .bools xs => cb xs
  | .tab _ _ c => c

/-- What a map holds, in the order in which it came. -/
inductive Mc where
  | ints (k : IntKind) (es : List (Int × Int))
  | bools (es : List (Int × Bool))
def Mc.entries : Mc → List (Value × Value)
  | .ints k es => es.map fun p => (.int .i64 p.1, .int k p.2)
  | .bools es => es.map fun p => (.int .i64 p.1, .bool p.2)

/-- A block of one's own: a variable, the row behind a slice, a map (of a type). -/
inductive Blk where
  | box (l : AV)
  | row (e : TypeId) (c : Ct)
  | mp (t : TypeId) (m : Mc)
def Blk.has (L : Nm) : Blk → Prop
  | .box l => l.has L
  | .row _ c => ∃ k j, k < c.len ∧ j < c.st ∧ (c.cell k j).has L
  | .mp _ _ => False
def AV.sub : AV → Option Blk
  | .oi e k xs => some (.row e (.ints k xs))
  | .ow e n st cell => some (.row e (.tab n st cell))
  | _ => none
theorem sub_has {a : AV} {x : Blk} (h : a.sub = some x) (L : Nm) : ¬ a.has L := by
  cases a <;> first | (cases h; done) | exact fun h => h

/-- In the cell i, j of the row N. -/
def CellR (w : World) (own : Bool → Nat → Prop) (γ : Nm → Value) (N : Nm) (i j : Nat) (a : AV) (u : Value) : Prop :=
  match a.sub with
  | some _ => u = γ (N.kid i j)
  | none => Reps w own γ a .o [u]
def BlkOk (w : World) (own : Bool → Nat → Prop) (γ : Nm → Value) (N : Nm) : Blk → Prop
  | .box l => ∃ bk us ty, γ N = .pointer (some ⟨bk, 0, none⟩) ∧ w.heap[bk]? = some (.cells (List.toArray us) ty (0, 0)) ∧ (∀ u ∈ us, u.oneCell' = true) ∧ Reps w own γ l .o us
  | .row e c => (c.len = 0 ∧ ∃ A, γ N = .slice A 0 0) ∨ ∃ bk o cap us, γ N = .slice (some ⟨bk, o, none⟩) c.len cap ∧ 0 < cap ∧ c.len ≤ cap ∧ w.heap[bk]? = some (.cells (List.toArray us) e (0, 0)) ∧
      o + cap * c.st ≤ us.length ∧ ∀ k j, k < c.len → j < c.st → ∃ u, us[o + (k * c.st + j)]? = some u ∧ u.oneCell' = true ∧ CellR w own γ N k j (c.cell k j) u
  | .mp t m => ∃ r es clock, γ N = .map (some r) ∧ w.heap[r]? = some (.map es clock) ∧ es.toList.map (fun e => (e.key, e.val)) = m.entries

def lks : List (Nat × AV) → Nat → AV
  | [], _ => .top
  | p :: l, t => bif Nat.beq p.1 t then p.2 else lks l t
def lkb : List (Nat × Option Blk) → Nat → Option Blk
  | [], _ => none
  | p :: l, t => bif Nat.beq p.1 t then p.2 else lkb l t

/-- The block at a path. -/
def Blk.At : Blk → List (Nat × Nat) → Blk → Prop
  | x, [], z => z = x
  | x, (i, j) :: p, z => ∃ e c y, x = .row e c ∧ i < c.len ∧ j < c.st ∧ (c.cell i j).sub = some y ∧ y.At p z
def Blk.look : Blk → List (Nat × Nat) → Option Blk
  | x, [] => some x
  | .row _ c, (i, j) :: p => (match (c.cell i j).sub with | some y => y.look p | none => none)
  | _, _ => none
def AtL (lk : Nat → Option Blk) (N : Nm) (z : Blk) : Prop := ∃ x, lk N.r = some x ∧ x.At N.p z

/-- What is known of a frame and of the memory that it owns. -/
structure St where
  slots : List (Nat × AV)
  store : List (Nat × Option Blk)
  n : Nat
def St.slot (s : St) (t : Nat) : AV := lks s.slots t
def St.rblk (s : St) (L : Nat) : Option Blk := lkb s.store L
def St.at (s : St) (N : Nm) (z : Blk) : Prop := AtL s.rblk N z
def St.blk (s : St) (N : Nm) : Option Blk := match s.rblk N.r with | some x => x.look N.p | none => none
def St.lv (s : St) (N : Nm) : Prop := ∃ x, s.at N x
def St.put (s : St) (d : Nat) (a : AV) : St := { s with slots := (d, a) :: s.slots }
def St.setB (s : St) (L : Nat) (b : Option Blk) : St := { s with store := (L, b) :: s.store }

theorem look_of {x : Blk} : ∀ {p : List (Nat × Nat)} {z : Blk}, x.At p z → x.look p = some z := by
  intro p
  induction p generalizing x with
  | nil => intro z h; cases h; cases x <;> rfl
  | cons q p ih =>
    obtain ⟨i, j⟩ := q
    rintro z ⟨e, c, y, rfl, h1, h2, h3, h4⟩
    simp only [Blk.look, h3]
    exact ih h4
theorem at_fun {x : Blk} {p : List (Nat × Nat)} {y z : Blk} (h : x.At p y) (k : x.At p z) : y = z := by
  have := look_of h; rw [look_of k] at this; cases this; rfl
theorem AtL.uniq {lk : Nat → Option Blk} {N : Nm} {x y : Blk} (h : AtL lk N x) (k : AtL lk N y) : x = y := by
  obtain ⟨a, h1, h2⟩ := h
  obtain ⟨b, k1, k2⟩ := k
  rw [h1] at k1; cases k1
  exact at_fun h2 k2
theorem St.at_blk {s : St} {N : Nm} {x : Blk} (h : s.at N x) : s.blk N = some x := by
  obtain ⟨a, h1, h2⟩ := h
  unfold St.blk; rw [h1]; exact look_of h2
theorem St.lv_at {s : St} {N : Nm} {x : Blk} (h : s.lv N) (hb : s.blk N = some x) : s.at N x := by
  obtain ⟨y, hy⟩ := h
  rw [St.at_blk hy] at hb; cases hb; exact hy
theorem at_root {s : St} {L : Nat} {x : Blk} : s.at (rt L) x ↔ s.rblk L = some x := ⟨fun ⟨a, h1, h2⟩ => by cases h2; exact h1, fun h => ⟨x, h, rfl⟩⟩
theorem blk_root (s : St) (L : Nat) : s.blk (rt L) = s.rblk L := by
  unfold St.blk
  show (match s.rblk L with | some x => x.look [] | none => none) = s.rblk L
  cases s.rblk L with
  | none => rfl
  | some x => cases x <;> rfl
theorem at_append {x : Blk} : ∀ {p q : List (Nat × Nat)} {z : Blk}, x.At (p ++ q) z ↔ ∃ y, x.At p y ∧ y.At q z := by
  intro p
  induction p generalizing x with
  | nil => intro q z; exact ⟨fun h => ⟨x, rfl, h⟩, fun ⟨y, h1, h2⟩ => by cases h1; exact h2⟩
  | cons a p ih =>
    obtain ⟨i, j⟩ := a
    intro q z
    constructor
    · rintro ⟨e, c, y, rfl, h1, h2, h3, h4⟩
      obtain ⟨y', h5, h6⟩ := ih.1 h4
      exact ⟨y', ⟨e, c, y, rfl, h1, h2, h3, h5⟩, h6⟩
    · rintro ⟨y', ⟨e, c, y, rfl, h1, h2, h3, h5⟩, h6⟩
      exact ⟨e, c, y, rfl, h1, h2, h3, ih.2 ⟨y', h5, h6⟩⟩
/-- The slices in a row's cells. -/
theorem at_kid {lk : Nat → Option Blk} {N : Nm} {e : TypeId} {c : Ct} {i j : Nat} {y : Blk} (h : AtL lk N (.row e c)) (hi : i < c.len) (hj : j < c.st) (hy : (c.cell i j).sub = some y) : AtL lk (N.kid i j) y := by
  obtain ⟨a, h1, h2⟩ := h
  exact ⟨a, h1, at_append.2 ⟨_, h2, _, _, y, rfl, hi, hj, hy, rfl⟩⟩
theorem kid_at {lk : Nat → Option Blk} {N : Nm} {i j : Nat} {y : Blk} (h : AtL lk (N.kid i j) y) : ∃ e c, AtL lk N (.row e c) ∧ i < c.len ∧ j < c.st ∧ (c.cell i j).sub = some y := by
  obtain ⟨a, h1, h2⟩ := h
  obtain ⟨x, h3, e, c, z, rfl, h4, h5, h6, h7⟩ := at_append.1 h2
  cases h7
  exact ⟨e, c, ⟨a, h1, h3⟩, h4, h5, h6⟩

theorem beq_ne {a b : Nat} (h : a ≠ b) : Nat.beq a b = false := by
  cases hb : Nat.beq a b with
  | false => rfl
  | true => exact absurd (Nat.eq_of_beq_eq_true hb) h
theorem St.slot_put (s : St) (d t : Nat) (a : AV) : (s.put d a).slot t = if d = t then a else s.slot t := by
  by_cases h : d = t
  · subst h; simp [St.slot, St.put, lks]
  · rw [if_neg h]; simp [St.slot, St.put, lks, beq_ne h]
theorem St.rblk_setB (s : St) (L M : Nat) (b : Option Blk) : (s.setB L b).rblk M = if L = M then b else s.rblk M := by
  by_cases h : L = M
  · subst h; simp [St.rblk, St.setB, lkb]
  · rw [if_neg h]; simp [St.rblk, St.setB, lkb, beq_ne h]
theorem at_setB_ne {s : St} {L : Nat} {b : Option Blk} {N : Nm} {x : Blk} (h : L ≠ N.r) : (s.setB L b).at N x ↔ s.at N x := by
  unfold St.at AtL; rw [St.rblk_setB, if_neg h]
theorem at_setB_eq {s : St} {L : Nat} {b : Blk} {p : List (Nat × Nat)} {x : Blk} : (s.setB L (some b)).at ⟨L, p⟩ x ↔ b.At p x := by
  unfold St.at AtL; rw [St.rblk_setB, if_pos rfl]
  exact ⟨fun ⟨a, h1, h2⟩ => by cases h1; exact h2, fun h => ⟨b, rfl, h⟩⟩

def St.own (s : St) (γ : Nm → Value) (bk : Nat) : Prop := ∃ N x, s.at N x ∧ blkOf (γ N) = some bk
/-- What a function's begin fixes: the world, the old blocks that it may write, the slices and pointers that it was lent, the blocks that it cannot come to. -/
structure Ent0 where
  w : World
  b : Nat → Prop
  g : Nm → Value
  z : Nat → Prop
  zlt : ∀ b, z b → b < w.heap.size
/-- What one owns or cannot come to, and (for what is to be new) what was there at the begin. -/
def Ent0.ow (E : Ent0) (p : Nat → Prop) (f : Bool) (b : Nat) : Prop := p b ∨ E.z b ∨ (f = true ∧ b < E.w.heap.size)
theorem ow_mono (E : Ent0) (p : Nat → Prop) : ∀ b, E.ow p false b → E.ow p true b := fun b h => h.elim .inl (fun h => h.elim (fun h => .inr (.inl h)) (fun h => by cases h.1))
theorem Keeps.ow {w w' : World} (E : Ent0) {p p' : Nat → Prop} (hs : w.heap.size ≤ w'.heap.size) (hb : ∀ k, k < w.heap.size → ¬ p k → w'.heap[k]? = w.heap[k]?) (ho : ∀ k, k < w.heap.size → ¬ p k → ¬ p' k) : Keeps w w' (E.ow p) (E.ow p') :=
  ⟨hs, fun f k hk hn => hb k hk (fun h => hn (.inl h)), fun f k hk hn h => h.elim (fun h => ho k hk (fun h => hn (.inl h)) h) (fun h => hn (.inr h))⟩

def St.live (s : St) (a : AV) : Prop := ∀ N, a.has N → s.lv N
/-- Only blocks that are there are spoken of. -/
structure St.WF (s : St) : Prop where
  slot : ∀ t, s.live (s.slot t)
  blk : ∀ M x N, s.at M x → x.has N → s.lv N

/-- From 'a' to 'b' nothing has changed but the blocks lent, and new ones. -/
structure Fr (lent : Nat → Prop) (a b : World) : Prop where
  os : b.os = a.os
  tape : b.tape = a.tape
  output : b.output = a.output
  size : a.heap.size ≤ b.heap.size
  block : ∀ k, k < a.heap.size → ¬ lent k → b.heap[k]? = a.heap[k]?
theorem Fr.refl (lent : Nat → Prop) (a : World) : Fr lent a a := ⟨rfl, rfl, rfl, Nat.le_refl _, fun _ _ _ => rfl⟩

/-- Names of what is lent. -/
def low : Nat := 16
/-- The state tells the truth of this frame and world. -/
structure Sim (E : Ent0) (s : St) (a : Act) (w : World) (γ : Nm → Value) : Prop where
  size : a.tmps.size = s.n
  defers : a.defers = []
  slots : ∀ t, Reps w (E.ow (s.own γ)) γ (s.slot t) .o [a.tmps.getD t undef]
  blks : ∀ N x, s.at N x → BlkOk w (E.ow (s.own γ)) γ N x
  mine : ∀ N x bk, s.at N x → blkOf (γ N) = some bk → bk < w.heap.size ∧ (E.w.heap.size ≤ bk ∨ E.b bk)
  inj : ∀ N M x y bk, s.at N x → s.at M y → blkOf (γ N) = some bk → blkOf (γ M) = some bk → N = M
  wf : s.WF
  hd : ∀ L, L < low → s.lv (rt L) → γ (rt L) = E.g (rt L)
  fr : Fr E.b E.w w
def Den (E : Ent0) (s : St) (a : Act) (w : World) : Prop := ∃ γ, Sim E s a w γ
end Go.Proofs.Ytbncmiglhjfcdaa
