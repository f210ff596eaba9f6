/-
  Joined: Ca Cb Cc Cd Ce Cf Cg Ch Ci Cj Ck Cl Cm.
-/
import Derived.Test.YtaopjdeigpiejaaDoorRows
import Derived.WalkKit
import Derived.ProofKit
import Derived.Below
import Derived.Orders
import Derived.MapKept
import Derived.Lib.ItoaNum
import Derived.Laws.CopyRow
import Derived.Laws.Cells
import Derived.Laws.Tables
import Derived.Laws.MakeOwn
import Derived.IntWalk
import Derived.Laws.Small
import Derived.Laws.Slices
import Derived.Laws.StructEq
namespace Go.Proofs.YtaopjdeigpiejaaDoor
open Go.RowKit
set_option linter.unusedVariables false

/-- A name of memory that one owns: a block, or the block behind a slice that stands in a cell of another, and so on. -/
structure Nm where
  r : Nat
  p : List (Nat × Nat)
def Nm.kid (N : Nm) (i j : Nat) : Nm := ⟨N.r, N.p ++ [(i, j)]⟩
abbrev rt (L : Nat) : Nm := ⟨L, []⟩
instance : DecidableEq Nm := fun a b => match a, b with
  | ⟨r, p⟩, ⟨r', p'⟩ => if h : r = r' ∧ p = p' then isTrue (by rw [h.1, h.2]) else isFalse (fun e => h (by cases e; exact ⟨rfl, rfl⟩))

/-- What a value says. 'op', 'om': a pointer into a variable, a map of one's own; 'os', 'oe': a slice of one's own, a pointer to an element's cell; 'rs', 'rp': a slice that is only read, a pointer into one. 'nl', 'e0': the nil slice, a slice without room. 'nil', 'cons': rows of fields. 'oi', 'ow' (in a cell): a slice of one's own, with what it holds. -/
inductive AV where
  | int (k : IntKind) (n : Int)
  | b (x : Bool)
  | tt
  | ff
  | s (x : ByteArray)
  | c (v : Value)
  | top
  | nl
  | e0
  | nil
  | cons (a l : AV)
  | agg (l : AV)
  | tup (l : AV)
  | fn (f : Nat) (caps : AV)
  | op (N : Nm) (j : Nat)
  | om (N : Nm)
  | os (N : Nm)
  | oe (N : Nm) (st k j : Nat)
  | ri (f : Bool) (k : IntKind) (xs : List Int)
  | rs (f : Bool) (n st : Nat) (cell : Nat → Nat → AV)
  | rp (f : Bool) (n st : Nat) (cell : Nat → Nat → AV) (k j : Nat)
  | oi (e : Nat) (k : IntKind) (xs : List Int)
  | ow (e : Nat) (n st : Nat) (cell : Nat → Nat → AV)

/-- Where a value stands: in one's own frame and memory, or in memory that is only read (and new, or not). -/
inductive Md where
  | o
  | r (f : Bool)
def Md.fr : Md → Bool → Bool
  | .o, f => f
  | .r g, f => g || f

abbrev AV.i (n : Int) : AV := .int .i64 n

def blkOf : Value → Option Nat
  | .pointer (some a) => some a.block
  | .slice (some a) _ cap => if cap = 0 then none else some a.block
  | .map (some r) => some r
  | _ => none
def ptrAt : Value → Nat → Value
  | .pointer (some a), j => .pointer (some ⟨a.block, a.off + j, none⟩)
  | .slice (some a) _ _, j => .pointer (some ⟨a.block, a.off + j, none⟩)
  | _, _ => .pointer none

def real (v : Value) : Prop := ∃ bk o, ∀ j, ptrAt v j = .pointer (some ⟨bk, o + j, none⟩)

/-- These values stand for the row of fields; 'ro': inside memory that is only read. -/
def Reps (w : World) (own : Bool → Nat → Prop) (γ : Nm → Value) : AV → Md → List Value → Prop
  | .int k n, _, vs => vs = [.int k n]
  | .b x, _, vs => vs = [.bool x]
  | .tt, _, vs => vs = [.bool true]
  | .ff, _, vs => vs = [.bool false]
  | .s x, _, vs => vs = [.string x]
  | .c v, _, vs => vs = [v]
  | .top, _, vs => ∃ v, vs = [v]
  | .nl, _, vs => vs = [.slice none 0 0]
  | .e0, _, vs => ∃ A, vs = [.slice A 0 0]
  | .nil, _, vs => vs = []
  | .cons a l, ro, vs => ∃ v us, vs = v :: us ∧ Reps w own γ a ro [v] ∧ Reps w own γ l ro us
  | .agg l, ro, vs => ∃ us : List Value, vs = [.agg us.toArray] ∧ Reps w own γ l ro us
  | .tup l, ro, vs => ∃ us : List Value, vs = [.tuple us.toArray] ∧ Reps w own γ l ro us
  | .fn f l, ro, vs => ∃ us : List Value, vs = [.func (.func f) #[] us.toArray] ∧ Reps w own γ l ro us
  | .op N j, ro, vs => ro = .o ∧ vs = [ptrAt (γ N) j] ∧ real (γ N)
  | .om N, ro, vs => ro = .o ∧ vs = [γ N]
  | .os N, ro, vs => ro = .o ∧ vs = [γ N]
  | .oe N st k j, ro, vs => ro = .o ∧ vs = [ptrAt (γ N) (k * st + j)] ∧ real (γ N)
  | .ri f q xs, ro, vs => ∃ A cap, vs = [.slice A xs.length cap] ∧ xs.length ≤ cap ∧ (0 < xs.length → ∃ bk o, A = some ⟨bk, o, none⟩ ∧ bk < w.heap.size ∧ ¬ own (ro.fr f) bk ∧
      ∀ k, k < xs.length → w.cell? ⟨bk, o + k, none⟩ = some (.int q (xs.getD k 0)))
  | .rs f n st cell, ro, vs => ∃ A cap, vs = [.slice A n cap] ∧ n ≤ cap ∧ (0 < n → ∃ bk o, A = some ⟨bk, o, none⟩ ∧ bk < w.heap.size ∧ ¬ own (ro.fr f) bk ∧
      ∀ k j, k < n → j < st → ∃ u, w.cell? ⟨bk, o + (k * st + j), none⟩ = some u ∧ u.oneCell' = true ∧ Reps w own γ (cell k j) (.r (ro.fr f)) [u])
  | .rp f n st cell k j, ro, vs => ∃ bk o, vs = [.pointer (some ⟨bk, o + (k * st + j), none⟩)] ∧ k < n ∧ bk < w.heap.size ∧ ¬ own (ro.fr f) bk ∧
      ∀ k j, k < n → j < st → ∃ u, w.cell? ⟨bk, o + (k * st + j), none⟩ = some u ∧ u.oneCell' = true ∧ Reps w own γ (cell k j) (.r (ro.fr f)) [u]
  | .oi _ _ _, _, _ => False
  | .ow _ _ _ _, _, _ => False

def AV.has (N : Nm) : AV → Prop
  | .cons a l => a.has N ∨ l.has N
  | .agg l => l.has N
  | .tup l => l.has N
  | .fn _ l => l.has N
  | .op M _ => M = N
  | .om M => M = N
  | .os M => M = N
  | .oe M _ _ _ => M = N
  | _ => False

/-- Memory that is read is as it was. -/
structure Keeps (w w' : World) (own own' : Bool → Nat → Prop) : Prop where
  size : w.heap.size ≤ w'.heap.size
  block : ∀ f k, k < w.heap.size → ¬ own f k → w'.heap[k]? = w.heap[k]?
  own : ∀ f k, k < w.heap.size → ¬ own f k → ¬ own' f k

theorem Keeps.cell {w w' : World} {own own' : Bool → Nat → Prop} (h : Keeps w w' own own') {f : Bool} {bk o : Nat} (hb : bk < w.heap.size) (ho : ¬ own f bk) : w'.cell? ⟨bk, o, none⟩ = w.cell? ⟨bk, o, none⟩ :=
  World.cell?_of_block (w := w) (h.block f bk hb ho)

theorem Reps.keep {w w' : World} {own own' : Bool → Nat → Prop} (h : Keeps w w' own own') {γ : Nm → Value} : ∀ {a : AV} {ro : Md} {vs : List Value}, Reps w own γ a ro vs → Reps w' own' γ a ro vs := by
  intro a
  induction a with
  | cons a l iha ihl =>
    rintro ro vs ⟨v, us, e, h1, h2⟩
    exact ⟨v, us, e, iha h1, ihl h2⟩
  | agg l ih => rintro ro vs ⟨us, e, h1⟩; exact ⟨us, e, ih h1⟩
  | tup l ih => rintro ro vs ⟨us, e, h1⟩; exact ⟨us, e, ih h1⟩
  | fn f l ih => rintro ro vs ⟨us, e, h1⟩; exact ⟨us, e, ih h1⟩
  | rs f n st cell ih =>
    rintro ro vs ⟨A, cap, e, hc, h1⟩
    refine ⟨A, cap, e, hc, fun hn => ?_⟩
    obtain ⟨bk, o, e1, h2, h3, h4⟩ := h1 hn
    refine ⟨bk, o, e1, Nat.lt_of_lt_of_le h2 h.size, h.own _ bk h2 h3, fun k j hk hj => ?_⟩
    obtain ⟨u, h5, ho, h6⟩ := h4 k j hk hj
    exact ⟨u, (h.cell h2 h3).trans h5, ho, ih k j h6⟩
  | ri f q xs =>
    rintro ro vs ⟨A, cap, e, hc, h1⟩
    refine ⟨A, cap, e, hc, fun hn => ?_⟩
    obtain ⟨bk, o, e1, h2, h3, h4⟩ := h1 hn
    exact ⟨bk, o, e1, Nat.lt_of_lt_of_le h2 h.size, h.own _ bk h2 h3, fun k hk => (h.cell h2 h3).trans (h4 k hk)⟩
  | rp f n st cell k0 j0 ih =>
    rintro ro vs ⟨bk, o, e1, h0, h2, h3, h4⟩
    refine ⟨bk, o, e1, h0, Nat.lt_of_lt_of_le h2 h.size, h.own _ bk h2 h3, fun k j hk hj => ?_⟩
    obtain ⟨u, h5, ho, h6⟩ := h4 k j hk hj
    exact ⟨u, (h.cell h2 h3).trans h5, ho, ih k j h6⟩
  | _ => intro ro vs h1; exact h1

theorem Reps.gam {w : World} {own : Bool → Nat → Prop} {γ γ' : Nm → Value} : ∀ {a : AV} {ro : Md} {vs : List Value}, (ro = .o → ∀ L, a.has L → γ' L = γ L) → Reps w own γ a ro vs → Reps w own γ' a ro vs := by
  intro a
  induction a with
  | cons a l iha ihl =>
    rintro ro vs hg ⟨v, us, e, h1, h2⟩
    exact ⟨v, us, e, iha (fun r L hL => hg r L (.inl hL)) h1, ihl (fun r L hL => hg r L (.inr hL)) h2⟩
  | agg l ih => rintro ro vs hg ⟨us, e, h1⟩; exact ⟨us, e, ih hg h1⟩
  | tup l ih => rintro ro vs hg ⟨us, e, h1⟩; exact ⟨us, e, ih hg h1⟩
  | fn f l ih => rintro ro vs hg ⟨us, e, h1⟩; exact ⟨us, e, ih hg h1⟩
  | op L j => rintro ro vs hg ⟨r, e, h1⟩; exact ⟨r, by rw [hg r L rfl]; exact ⟨e, h1⟩⟩
  | om L => rintro ro vs hg ⟨r, e⟩; exact ⟨r, by rw [hg r L rfl]; exact e⟩
  | os L => rintro ro vs hg ⟨r, e⟩; exact ⟨r, by rw [hg r L rfl]; exact e⟩
  | oe L st k j => rintro ro vs hg ⟨r, e, h1⟩; exact ⟨r, by rw [hg r L rfl]; exact ⟨e, h1⟩⟩
  | rs f n st cell ih =>
    rintro ro vs hg ⟨A, cap, e, hc, h1⟩
    refine ⟨A, cap, e, hc, fun hn => ?_⟩
    obtain ⟨bk, o, e1, h2, h3, h4⟩ := h1 hn
    refine ⟨bk, o, e1, h2, h3, fun k j hk hj => ?_⟩
    obtain ⟨u, h5, ho, h6⟩ := h4 k j hk hj
    exact ⟨u, h5, ho, ih k j (fun r => by cases r) h6⟩
  | rp f n st cell k0 j0 ih =>
    rintro ro vs hg ⟨bk, o, e1, h0, h2, h3, h4⟩
    refine ⟨bk, o, e1, h0, h2, h3, fun k j hk hj => ?_⟩
    obtain ⟨u, h5, ho, h6⟩ := h4 k j hk hj
    exact ⟨u, h5, ho, ih k j (fun r => by cases r) h6⟩
  | _ => intro ro vs hg h1; exact h1

/-- What is only read may be looked at as if it were not. -/
theorem Reps.ro {w : World} {own : Bool → Nat → Prop} {γ : Nm → Value} {g : Bool} (hm : ∀ b, own false b → own true b) : ∀ {a : AV} {vs : List Value}, Reps w own γ a (.r g) vs → Reps w own γ a .o vs := by
  have mono : ∀ f g b, ¬ own (g || f) b → ¬ own f b := fun f g b h h1 => h (by cases f <;> cases g <;> first | exact h1 | exact hm b h1)
  have deep : ∀ {a : AV} {f g : Bool} {vs : List Value}, Reps w own γ a (.r (g || f)) vs → Reps w own γ a (.r f) vs := by
    intro a
    induction a with
    | cons a l iha ihl => rintro f g vs ⟨v, us, e, h1, h2⟩; exact ⟨v, us, e, iha h1, ihl h2⟩
    | agg l ih => rintro f g vs ⟨us, e, h1⟩; exact ⟨us, e, ih h1⟩
    | tup l ih => rintro f g vs ⟨us, e, h1⟩; exact ⟨us, e, ih h1⟩
    | fn q l ih => rintro f g vs ⟨us, e, h1⟩; exact ⟨us, e, ih h1⟩
    | op L j => rintro f g vs ⟨r, e⟩; cases r
    | om L => rintro f g vs ⟨r, e⟩; cases r
    | os L => rintro f g vs ⟨r, e⟩; cases r
    | oe L st k j => rintro f g vs ⟨r, e⟩; cases r
    | ri f' q xs =>
      rintro f g vs ⟨A, cap, e, hc, h1⟩
      refine ⟨A, cap, e, hc, fun hn => ?_⟩
      obtain ⟨bk, o, e1, h2, h3, h4⟩ := h1 hn
      exact ⟨bk, o, e1, h2, mono _ g _ (by have h7 := h3; simp only [Md.fr, Bool.or_assoc] at h7 ⊢; exact h7), h4⟩
    | rs f' n st cell ih =>
      rintro f g vs ⟨A, cap, e, hc, h1⟩
      refine ⟨A, cap, e, hc, fun hn => ?_⟩
      obtain ⟨bk, o, e1, h2, h3, h4⟩ := h1 hn
      refine ⟨bk, o, e1, h2, mono _ g _ (by have h7 := h3; simp only [Md.fr, Bool.or_assoc] at h7 ⊢; exact h7), fun k j hk hj => ?_⟩
      obtain ⟨u, h5, ho, h6⟩ := h4 k j hk hj
      exact ⟨u, h5, ho, ih k j (g := g) (by have h7 := h6; simp only [Md.fr, Bool.or_assoc] at h7 ⊢; exact h7)⟩
    | rp f' n st cell k0 j0 ih =>
      rintro f g vs ⟨bk, o, e1, h0, h2, h3, h4⟩
      refine ⟨bk, o, e1, h0, h2, mono _ g _ (by have h7 := h3; simp only [Md.fr, Bool.or_assoc] at h7 ⊢; exact h7), fun k j hk hj => ?_⟩
      obtain ⟨u, h5, ho, h6⟩ := h4 k j hk hj
      exact ⟨u, h5, ho, ih k j (g := g) (by have h7 := h6; simp only [Md.fr, Bool.or_assoc] at h7 ⊢; exact h7)⟩
    | _ => intro f g vs h1; exact h1
  intro a
  induction a with
  | cons a l iha ihl => rintro vs ⟨v, us, e, h1, h2⟩; exact ⟨v, us, e, iha h1, ihl h2⟩
  | agg l ih => rintro vs ⟨us, e, h1⟩; exact ⟨us, e, ih h1⟩
  | tup l ih => rintro vs ⟨us, e, h1⟩; exact ⟨us, e, ih h1⟩
  | fn f l ih => rintro vs ⟨us, e, h1⟩; exact ⟨us, e, ih h1⟩
  | op L j => rintro vs ⟨r, e⟩; cases r
  | om L => rintro vs ⟨r, e⟩; cases r
  | os L => rintro vs ⟨r, e⟩; cases r
  | oe L st k j => rintro vs ⟨r, e⟩; cases r
  | ri f' q xs =>
    rintro vs ⟨A, cap, e, hc, h1⟩
    refine ⟨A, cap, e, hc, fun hn => ?_⟩
    obtain ⟨bk, o, e1, h2, h3, h4⟩ := h1 hn
    exact ⟨bk, o, e1, h2, mono _ g _ h3, h4⟩
  | rs f' n st cell ih =>
    rintro vs ⟨A, cap, e, hc, h1⟩
    refine ⟨A, cap, e, hc, fun hn => ?_⟩
    obtain ⟨bk, o, e1, h2, h3, h4⟩ := h1 hn
    refine ⟨bk, o, e1, h2, mono _ g _ h3, fun k j hk hj => ?_⟩
    obtain ⟨u, h5, ho, h6⟩ := h4 k j hk hj
    exact ⟨u, h5, ho, deep (g := g) h6⟩
  | rp f' n st cell k0 j0 ih =>
    rintro vs ⟨bk, o, e1, h0, h2, h3, h4⟩
    refine ⟨bk, o, e1, h0, h2, mono _ g _ h3, fun k j hk hj => ?_⟩
    obtain ⟨u, h5, ho, h6⟩ := h4 k j hk hj
    exact ⟨u, h5, ho, deep (g := g) h6⟩
  | _ => intro vs h1; exact h1

/-- What is only read, seen by one who owns something else (or nothing). -/
theorem Reps.bare {w : World} {own own' : Bool → Nat → Prop} {γ γ' : Nm → Value} (hm : ∀ g g' b, b < w.heap.size → ¬ own g b → ¬ own' g' b) : ∀ {a : AV} {g g' : Bool} {vs : List Value}, Reps w own γ a (.r g) vs → Reps w own' γ' a (.r g') vs := by
  intro a
  induction a with
  | cons a l iha ihl => rintro g g' vs ⟨v, us, e, h1, h2⟩; exact ⟨v, us, e, iha h1, ihl h2⟩
  | agg l ih => rintro g g' vs ⟨us, e, h1⟩; exact ⟨us, e, ih h1⟩
  | tup l ih => rintro g g' vs ⟨us, e, h1⟩; exact ⟨us, e, ih h1⟩
  | fn f l ih => rintro g g' vs ⟨us, e, h1⟩; exact ⟨us, e, ih h1⟩
  | op L j => rintro g g' vs ⟨r, e⟩; cases r
  | om L => rintro g g' vs ⟨r, e⟩; cases r
  | os L => rintro g g' vs ⟨r, e⟩; cases r
  | oe L st k j => rintro g g' vs ⟨r, e⟩; cases r
  | ri f' q xs =>
    rintro g g' vs ⟨A, cap, e, hc, h1⟩
    refine ⟨A, cap, e, hc, fun hn => ?_⟩
    obtain ⟨bk, o, e1, h2, h3, h4⟩ := h1 hn
    exact ⟨bk, o, e1, h2, hm _ _ bk h2 h3, h4⟩
  | rs f' n st cell ih =>
    rintro g g' vs ⟨A, cap, e, hc, h1⟩
    refine ⟨A, cap, e, hc, fun hn => ?_⟩
    obtain ⟨bk, o, e1, h2, h3, h4⟩ := h1 hn
    refine ⟨bk, o, e1, h2, hm _ _ bk h2 h3, fun k j hk hj => ?_⟩
    obtain ⟨u, h5, ho, h6⟩ := h4 k j hk hj
    exact ⟨u, h5, ho, ih k j h6⟩
  | rp f' n st cell k0 j0 ih =>
    rintro g g' vs ⟨bk, o, e1, h0, h2, h3, h4⟩
    refine ⟨bk, o, e1, h0, h2, hm _ _ bk h2 h3, fun k j hk hj => ?_⟩
    obtain ⟨u, h5, ho, h6⟩ := h4 k j hk hj
    exact ⟨u, h5, ho, ih k j h6⟩
  | _ => intro g g' vs h1; exact h1

/-- All that is read is new. -/
def AV.new : AV → Prop
  | .cons a l => a.new ∧ l.new
  | .agg l => l.new
  | .tup l => l.new
  | .fn _ l => l.new
  | .ri f _ _ => f = true
  | .rs f _ _ _ => f = true
  | .rp f _ _ _ _ _ => f = true
  | .ow _ n st cell => ∀ i j, i < n → j < st → (cell i j).new
  | _ => True
theorem Reps.keepT {w w' : World} {own own' : Bool → Nat → Prop} {γ : Nm → Value} (hs : w.heap.size ≤ w'.heap.size) (hb : ∀ k, k < w.heap.size → ¬ own true k → w'.heap[k]? = w.heap[k]? ∧ ¬ own' true k) :
    ∀ {a : AV} {m : Md} {vs : List Value}, (a.new ∨ m = .r true) → Reps w own γ a m vs → Reps w' own' γ a m vs := by
  have hc : ∀ {bk o : Nat}, bk < w.heap.size → ¬ own true bk → w'.cell? ⟨bk, o, none⟩ = w.cell? ⟨bk, o, none⟩ := fun h1 h2 => World.cell?_of_block (w := w) (hb _ h1 h2).1
  intro a
  induction a with
  | cons a l iha ihl => rintro m vs hn ⟨v, us, e, h1, h2⟩; exact ⟨v, us, e, iha (hn.imp (·.1) id) h1, ihl (hn.imp (·.2) id) h2⟩
  | agg l ih => rintro m vs hn ⟨us, e, h1⟩; exact ⟨us, e, ih hn h1⟩
  | tup l ih => rintro m vs hn ⟨us, e, h1⟩; exact ⟨us, e, ih hn h1⟩
  | fn f l ih => rintro m vs hn ⟨us, e, h1⟩; exact ⟨us, e, ih hn h1⟩
  | ri f q xs =>
    rintro m vs hn ⟨A, cap, e, hc', h1⟩
    have hf : m.fr f = true := by
      rcases hn with h | rfl
      · have h' : f = true := h
        subst h'; cases m <;> simp [Md.fr]
      · rfl
    refine ⟨A, cap, e, hc', fun hn => ?_⟩
    obtain ⟨bk, o, e1, h2, h3, h4⟩ := h1 hn
    rw [hf] at h3 ⊢
    exact ⟨bk, o, e1, Nat.lt_of_lt_of_le h2 hs, (hb bk h2 h3).2, fun k hk => (hc h2 h3).trans (h4 k hk)⟩
  | rs f n st cell ih =>
    rintro m vs hn ⟨A, cap, e, hc', h1⟩
    have hf : m.fr f = true := by
      rcases hn with h | rfl
      · have h' : f = true := h
        subst h'; cases m <;> simp [Md.fr]
      · rfl
    refine ⟨A, cap, e, hc', fun hn => ?_⟩
    obtain ⟨bk, o, e1, h2, h3, h4⟩ := h1 hn
    rw [hf] at h3 h4 ⊢
    refine ⟨bk, o, e1, Nat.lt_of_lt_of_le h2 hs, (hb bk h2 h3).2, fun k j hk hj => ?_⟩
    obtain ⟨u, h5, ho, h6⟩ := h4 k j hk hj
    exact ⟨u, (hc h2 h3).trans h5, ho, ih k j (.inr rfl) h6⟩
  | rp f n st cell k0 j0 ih =>
    rintro m vs hn ⟨bk, o, e1, h0, h2, h3, h4⟩
    have hf : m.fr f = true := by
      rcases hn with h | rfl
      · have h' : f = true := h
        subst h'; cases m <;> simp [Md.fr]
      · rfl
    rw [hf] at h3 h4
    refine ⟨bk, o, e1, h0, Nat.lt_of_lt_of_le h2 hs, by rw [hf]; exact (hb bk h2 h3).2, fun k j hk hj => ?_⟩
    obtain ⟨u, h5, ho, h6⟩ := h4 k j hk hj
    exact ⟨u, (hc h2 h3).trans h5, ho, by rw [hf]; exact ih k j (.inr rfl) h6⟩
  | ow e n st cell ih => intro m vs hn h1; exact h1.elim
  | _ => intro m vs hn h1; exact h1

/-- A value that is read alone does not look at 'γ', and needs no block of one's own. -/
theorem Reps.gam_ro {w : World} {own : Bool → Nat → Prop} {γ γ' : Nm → Value} {a : AV} {g : Bool} {vs : List Value} (h : Reps w own γ a (.r g) vs) : Reps w own γ' a (.r g) vs := h.gam (fun r => by cases r)
theorem Reps.has_ro {w : World} {own : Bool → Nat → Prop} {γ : Nm → Value} {L : Nm} {g : Bool} : ∀ {a : AV} {vs : List Value}, Reps w own γ a (.r g) vs → ¬ a.has L := by
  intro a
  induction a with
  | cons a l iha ihl => rintro vs ⟨v, us, e, h1, h2⟩ hL; exact hL.elim (iha h1) (ihl h2)
  | agg l ih => rintro vs ⟨us, e, h1⟩; exact ih h1
  | tup l ih => rintro vs ⟨us, e, h1⟩; exact ih h1
  | fn f l ih => rintro vs ⟨us, e, h1⟩; exact ih h1
  | op M j => rintro vs ⟨r, e⟩; cases r
  | om M => rintro vs ⟨r, e⟩; cases r
  | os M => rintro vs ⟨r, e⟩; cases r
  | oe M st k j => rintro vs ⟨r, e⟩; cases r
  | _ => intro vs h1 hL; exact hL

/-- What a row holds. -/
inductive Ct where
  | ints (k : IntKind) (xs : List Int)
  | bools (xs : List Bool)
  | tab (n st : Nat) (cell : Nat → Nat → AV)
def Ct.len : Ct → Nat
  | .ints _ xs => xs.length
  | .bools xs => xs.length
  | .tab n _ _ => n
def Ct.st : Ct → Nat
  | .ints _ _ => 1
  | .bools _ => 1
  | .tab _ st _ => st
def ci (k : IntKind) (xs : List Int) (i j : Nat) : AV := .int k (xs.getD i 0)
def cb (xs : List Bool) (i j : Nat) : AV := .b (xs.getD i false)
def Ct.cell : Ct → Nat → Nat → AV
  | .ints k xs => ci k xs
  | .bools xs => cb xs
  | .tab _ _ c => c

/-- What a map holds, in the order in which it came. -/
inductive Mc where
  | ints (k : IntKind) (es : List (Int × Int))
  | bools (es : List (Int × Bool))
def Mc.entries : Mc → List (Value × Value)
  | .ints k es => es.map fun p => (.int .i64 p.1, .int k p.2)
  | .bools es => es.map fun p => (.int .i64 p.1, .bool p.2)

/-- A block of one's own: a variable, the row behind a slice, a map (of a type). -/
inductive Blk where
  | box (l : AV)
  | row (e : TypeId) (c : Ct)
  | mp (t : TypeId) (m : Mc)
def Blk.has (L : Nm) : Blk → Prop
  | .box l => l.has L
  | .row _ c => ∃ k j, k < c.len ∧ j < c.st ∧ (c.cell k j).has L
  | .mp _ _ => False
def AV.sub : AV → Option Blk
  | .oi e k xs => some (.row e (.ints k xs))
  | .ow e n st cell => some (.row e (.tab n st cell))
  | _ => none
theorem sub_has {a : AV} {x : Blk} (h : a.sub = some x) (L : Nm) : ¬ a.has L := by
  cases a <;> first | (cases h; done) | exact fun h => h

/-- In the cell i, j of the row N. -/
def CellR (w : World) (own : Bool → Nat → Prop) (γ : Nm → Value) (N : Nm) (i j : Nat) (a : AV) (u : Value) : Prop :=
  match a.sub with
  | some _ => u = γ (N.kid i j)
  | none => Reps w own γ a .o [u]
def BlkOk (w : World) (own : Bool → Nat → Prop) (γ : Nm → Value) (N : Nm) : Blk → Prop
  | .box l => ∃ bk us ty, γ N = .pointer (some ⟨bk, 0, none⟩) ∧ w.heap[bk]? = some (.cells (List.toArray us) ty (0, 0)) ∧ (∀ u ∈ us, u.oneCell' = true) ∧ Reps w own γ l .o us
  | .row e c => (c.len = 0 ∧ ∃ A, γ N = .slice A 0 0) ∨ ∃ bk o cap us, γ N = .slice (some ⟨bk, o, none⟩) c.len cap ∧ 0 < cap ∧ c.len ≤ cap ∧ w.heap[bk]? = some (.cells (List.toArray us) e (0, 0)) ∧
      o + cap * c.st ≤ us.length ∧ ∀ k j, k < c.len → j < c.st → ∃ u, us[o + (k * c.st + j)]? = some u ∧ u.oneCell' = true ∧ CellR w own γ N k j (c.cell k j) u
  | .mp t m => ∃ r es clock, γ N = .map (some r) ∧ w.heap[r]? = some (.map es clock) ∧ es.toList.map (fun e => (e.key, e.val)) = m.entries ∧ MapKept.Stamped es clock

def lks : List (Nat × AV) → Nat → AV
  | [], _ => .top
  | p :: l, t => bif Nat.beq p.1 t then p.2 else lks l t
def lkb : List (Nat × Option Blk) → Nat → Option Blk
  | [], _ => none
  | p :: l, t => bif Nat.beq p.1 t then p.2 else lkb l t

/-- The block at a path. -/
def Blk.At : Blk → List (Nat × Nat) → Blk → Prop
  | x, [], z => z = x
  | x, (i, j) :: p, z => ∃ e c y, x = .row e c ∧ i < c.len ∧ j < c.st ∧ (c.cell i j).sub = some y ∧ y.At p z
def Blk.look : Blk → List (Nat × Nat) → Option Blk
  | x, [] => some x
  | .row _ c, (i, j) :: p => (match (c.cell i j).sub with | some y => y.look p | none => none)
  | _, _ => none
def AtL (lk : Nat → Option Blk) (N : Nm) (z : Blk) : Prop := ∃ x, lk N.r = some x ∧ x.At N.p z

/-- What is known of a frame and of the memory that it owns. -/
structure St where
  slots : List (Nat × AV)
  store : List (Nat × Option Blk)
  n : Nat
def St.slot (s : St) (t : Nat) : AV := lks s.slots t
def St.rblk (s : St) (L : Nat) : Option Blk := lkb s.store L
def St.at (s : St) (N : Nm) (z : Blk) : Prop := AtL s.rblk N z
def St.blk (s : St) (N : Nm) : Option Blk := match s.rblk N.r with | some x => x.look N.p | none => none
def St.lv (s : St) (N : Nm) : Prop := ∃ x, s.at N x
def St.put (s : St) (d : Nat) (a : AV) : St := { s with slots := (d, a) :: s.slots }
def St.setB (s : St) (L : Nat) (b : Option Blk) : St := { s with store := (L, b) :: s.store }

theorem look_of {x : Blk} : ∀ {p : List (Nat × Nat)} {z : Blk}, x.At p z → x.look p = some z := by
  intro p
  induction p generalizing x with
  | nil => intro z h; cases h; cases x <;> rfl
  | cons q p ih =>
    obtain ⟨i, j⟩ := q
    rintro z ⟨e, c, y, rfl, h1, h2, h3, h4⟩
    simp only [Blk.look, h3]
    exact ih h4
theorem at_fun {x : Blk} {p : List (Nat × Nat)} {y z : Blk} (h : x.At p y) (k : x.At p z) : y = z := by
  have := look_of h; rw [look_of k] at this; cases this; rfl
theorem AtL.uniq {lk : Nat → Option Blk} {N : Nm} {x y : Blk} (h : AtL lk N x) (k : AtL lk N y) : x = y := by
  obtain ⟨a, h1, h2⟩ := h
  obtain ⟨b, k1, k2⟩ := k
  rw [h1] at k1; cases k1
  exact at_fun h2 k2
theorem St.at_blk {s : St} {N : Nm} {x : Blk} (h : s.at N x) : s.blk N = some x := by
  obtain ⟨a, h1, h2⟩ := h
  unfold St.blk; rw [h1]; exact look_of h2
theorem St.lv_at {s : St} {N : Nm} {x : Blk} (h : s.lv N) (hb : s.blk N = some x) : s.at N x := by
  obtain ⟨y, hy⟩ := h
  rw [St.at_blk hy] at hb; cases hb; exact hy
theorem at_root {s : St} {L : Nat} {x : Blk} : s.at (rt L) x ↔ s.rblk L = some x := ⟨fun ⟨a, h1, h2⟩ => by cases h2; exact h1, fun h => ⟨x, h, rfl⟩⟩
theorem blk_root (s : St) (L : Nat) : s.blk (rt L) = s.rblk L := by
  unfold St.blk
  show (match s.rblk L with | some x => x.look [] | none => none) = s.rblk L
  cases s.rblk L with
  | none => rfl
  | some x => cases x <;> rfl
theorem at_append {x : Blk} : ∀ {p q : List (Nat × Nat)} {z : Blk}, x.At (p ++ q) z ↔ ∃ y, x.At p y ∧ y.At q z := by
  intro p
  induction p generalizing x with
  | nil => intro q z; exact ⟨fun h => ⟨x, rfl, h⟩, fun ⟨y, h1, h2⟩ => by cases h1; exact h2⟩
  | cons a p ih =>
    obtain ⟨i, j⟩ := a
    intro q z
    constructor
    · rintro ⟨e, c, y, rfl, h1, h2, h3, h4⟩
      obtain ⟨y', h5, h6⟩ := ih.1 h4
      exact ⟨y', ⟨e, c, y, rfl, h1, h2, h3, h5⟩, h6⟩
    · rintro ⟨y', ⟨e, c, y, rfl, h1, h2, h3, h5⟩, h6⟩
      exact ⟨e, c, y, rfl, h1, h2, h3, ih.2 ⟨y', h5, h6⟩⟩
/-- The slices in a row's cells. -/
theorem at_kid {lk : Nat → Option Blk} {N : Nm} {e : TypeId} {c : Ct} {i j : Nat} {y : Blk} (h : AtL lk N (.row e c)) (hi : i < c.len) (hj : j < c.st) (hy : (c.cell i j).sub = some y) : AtL lk (N.kid i j) y := by
  obtain ⟨a, h1, h2⟩ := h
  exact ⟨a, h1, at_append.2 ⟨_, h2, _, _, y, rfl, hi, hj, hy, rfl⟩⟩
theorem kid_at {lk : Nat → Option Blk} {N : Nm} {i j : Nat} {y : Blk} (h : AtL lk (N.kid i j) y) : ∃ e c, AtL lk N (.row e c) ∧ i < c.len ∧ j < c.st ∧ (c.cell i j).sub = some y := by
  obtain ⟨a, h1, h2⟩ := h
  obtain ⟨x, h3, e, c, z, rfl, h4, h5, h6, h7⟩ := at_append.1 h2
  cases h7
  exact ⟨e, c, ⟨a, h1, h3⟩, h4, h5, h6⟩

theorem beq_ne {a b : Nat} (h : a ≠ b) : Nat.beq a b = false := by
  cases hb : Nat.beq a b with
  | false => rfl
  | true => exact absurd (Nat.eq_of_beq_eq_true hb) h
theorem St.slot_put (s : St) (d t : Nat) (a : AV) : (s.put d a).slot t = if d = t then a else s.slot t := by
  by_cases h : d = t
  · subst h; simp [St.slot, St.put, lks]
  · rw [if_neg h]; simp [St.slot, St.put, lks, beq_ne h]
theorem St.rblk_setB (s : St) (L M : Nat) (b : Option Blk) : (s.setB L b).rblk M = if L = M then b else s.rblk M := by
  by_cases h : L = M
  · subst h; simp [St.rblk, St.setB, lkb]
  · rw [if_neg h]; simp [St.rblk, St.setB, lkb, beq_ne h]
theorem at_setB_ne {s : St} {L : Nat} {b : Option Blk} {N : Nm} {x : Blk} (h : L ≠ N.r) : (s.setB L b).at N x ↔ s.at N x := by
  unfold St.at AtL; rw [St.rblk_setB, if_neg h]
theorem at_setB_eq {s : St} {L : Nat} {b : Blk} {p : List (Nat × Nat)} {x : Blk} : (s.setB L (some b)).at ⟨L, p⟩ x ↔ b.At p x := by
  unfold St.at AtL; rw [St.rblk_setB, if_pos rfl]
  exact ⟨fun ⟨a, h1, h2⟩ => by cases h1; exact h2, fun h => ⟨b, rfl, h⟩⟩

def St.own (s : St) (γ : Nm → Value) (bk : Nat) : Prop := ∃ N x, s.at N x ∧ blkOf (γ N) = some bk
/-- The table that strconv keeps: where it lies, and that it is not lent. -/
def TabOk (w : World) (b : Nat → Prop) : Prop := ∃ g, g = 1 ∧ g < w.heap.size ∧ ¬ b g ∧ ∃ t fr, w.heap[g]? = some (.cells (Lib.pow10Tab.map fun z => Value.int .u64 z).toArray t fr)
/-- What a function's begin fixes: the world, the old blocks that it may write, the slices and pointers that it was lent, the blocks that it cannot come to. -/
structure Ent0 where
  w : World
  b : Nat → Prop
  g : Nm → Value
  z : Nat → Prop
  zlt : ∀ b, z b → b < w.heap.size
  zb : ∀ x, z x → ¬ b x
  tab : TabOk w b
/-- What one owns or cannot come to, and (for what is to be new) what was there at the begin. -/
def Ent0.ow (E : Ent0) (p : Nat → Prop) (f : Bool) (b : Nat) : Prop := p b ∨ E.z b ∨ (f = true ∧ b < E.w.heap.size)
theorem ow_mono (E : Ent0) (p : Nat → Prop) : ∀ b, E.ow p false b → E.ow p true b := fun b h => h.elim .inl (fun h => h.elim (fun h => .inr (.inl h)) (fun h => by cases h.1))
theorem Keeps.ow {w w' : World} (E : Ent0) {p p' : Nat → Prop} (hs : w.heap.size ≤ w'.heap.size) (hb : ∀ k, k < w.heap.size → ¬ p k → w'.heap[k]? = w.heap[k]?) (ho : ∀ k, k < w.heap.size → ¬ p k → ¬ p' k) : Keeps w w' (E.ow p) (E.ow p') :=
  ⟨hs, fun f k hk hn => hb k hk (fun h => hn (.inl h)), fun f k hk hn h => h.elim (fun h => ho k hk (fun h => hn (.inl h)) h) (fun h => hn (.inr h))⟩

def St.live (s : St) (a : AV) : Prop := ∀ N, a.has N → s.lv N
/-- Only blocks that are there are spoken of. -/
structure St.WF (s : St) : Prop where
  slot : ∀ t, s.live (s.slot t)
  blk : ∀ M x N, s.at M x → x.has N → s.lv N

/-- From 'a' to 'b' nothing has changed but the blocks lent, and new ones. -/
structure Fr (lent : Nat → Prop) (a b : World) : Prop where
  os : b.os = a.os
  tape : b.tape = a.tape
  output : b.output = a.output
  size : a.heap.size ≤ b.heap.size
  block : ∀ k, k < a.heap.size → ¬ lent k → b.heap[k]? = a.heap[k]?
theorem Fr.refl (lent : Nat → Prop) (a : World) : Fr lent a a := ⟨rfl, rfl, rfl, Nat.le_refl _, fun _ _ _ => rfl⟩

/-- Names of what is lent. -/
def low : Nat := 16
/-- The state tells the truth of this frame and world. -/
structure Sim (E : Ent0) (s : St) (a : Act) (w : World) (γ : Nm → Value) : Prop where
  size : a.tmps.size = s.n
  defers : a.defers = []
  slots : ∀ t, Reps w (E.ow (s.own γ)) γ (s.slot t) .o [a.tmps.getD t undef]
  blks : ∀ N x, s.at N x → BlkOk w (E.ow (s.own γ)) γ N x
  mine : ∀ N x bk, s.at N x → blkOf (γ N) = some bk → bk < w.heap.size ∧ (E.w.heap.size ≤ bk ∨ E.b bk)
  inj : ∀ N M x y bk, s.at N x → s.at M y → blkOf (γ N) = some bk → blkOf (γ M) = some bk → N = M
  wf : s.WF
  hd : ∀ L, L < low → s.lv (rt L) → γ (rt L) = E.g (rt L)
  fr : Fr E.b E.w w
def Den (E : Ent0) (s : St) (a : Act) (w : World) : Prop := ∃ γ, Sim E s a w γ
end Go.Proofs.YtaopjdeigpiejaaDoor
namespace Go.Proofs.YtaopjdeigpiejaaDoor
open Go.RowKit
set_option linter.unusedVariables false

def upd (γ : Nm → Value) (L : Nm) (g : Value) (M : Nm) : Value := if M = L then g else γ M
theorem upd_at (γ : Nm → Value) (L : Nm) (g : Value) : upd γ L g L = g := by simp [upd]
theorem upd_ne (γ : Nm → Value) {L M : Nm} (g : Value) (h : M ≠ L) : upd γ L g M = γ M := by simp [upd, h]

theorem cell_heap {w : World} {bk o : Nat} {us : List Value} {ty : TypeId} {fz : Nat × Nat} (h : w.heap[bk]? = some (.cells us.toArray ty fz)) : w.cell? ⟨bk, o, none⟩ = us[o]? := by
  simp [World.cell?, h]
theorem heap_lt {w : World} {bk : Nat} {o : Obj} (h : w.heap[bk]? = some o) : bk < w.heap.size := by
  rcases Nat.lt_or_ge bk w.heap.size with h1 | h1
  · exact h1
  · rw [Array.getElem?_eq_none h1] at h; cases h

theorem blkOf_slice {a : Addr} {n cap : Nat} (h : 0 < cap) : blkOf (.slice (some a) n cap) = some a.block := by simp [blkOf, Nat.ne_of_gt h]
theorem blkOf_slice0 {A : Option Addr} {n : Nat} : blkOf (.slice A n 0) = none := by cases A <;> simp [blkOf]
theorem BlkOk.lt {w : World} {own : Bool → Nat → Prop} {γ : Nm → Value} {N : Nm} {x : Blk} (h : BlkOk w own γ N x) {bk : Nat} (hb : blkOf (γ N) = some bk) : bk < w.heap.size := by
  cases x with
  | box l =>
    obtain ⟨b, us, ty, e, h1, _⟩ := h
    rw [e] at hb; cases hb
    exact heap_lt h1
  | row e c =>
    rcases h with ⟨_, A, e⟩ | ⟨b, o, cap, us, e, hp, _, h1, _⟩
    · rw [e, blkOf_slice0] at hb; cases hb
    · rw [e, blkOf_slice hp] at hb; cases hb
      exact heap_lt h1
  | mp t m =>
    obtain ⟨r, es, clock, e, h1, _⟩ := h
    rw [e] at hb; cases hb
    exact heap_lt h1

/-- Rows that differ in what their own slices hold alone. -/
def SameSh : Blk → Blk → Prop
  | .row e c, y => ∃ c', y = .row e c' ∧ c'.len = c.len ∧ c'.st = c.st ∧ ∀ i j, i < c.len → j < c.st → c'.cell i j = c.cell i j ∨ ((c.cell i j).sub.isSome = true ∧ (c'.cell i j).sub.isSome = true)
  | x, y => y = x
theorem SameSh.refl (x : Blk) : SameSh x x := by
  cases x with
  | row e c => exact ⟨c, rfl, rfl, rfl, fun _ _ _ _ => .inl rfl⟩
  | _ => rfl
theorem SameSh.has {x y : Blk} (h : SameSh x y) {L : Nm} (hL : y.has L) : x.has L := by
  cases x with
  | row e c =>
    obtain ⟨c', rfl, h1, h2, h3⟩ := h
    obtain ⟨k, j, hk, hj, hM⟩ := hL
    rw [h1] at hk
    rw [h2] at hj
    rcases h3 k j hk hj with e1 | ⟨_, e1⟩
    · exact ⟨k, j, hk, hj, by rw [← e1]; exact hM⟩
    · obtain ⟨z, hz⟩ := Option.isSome_iff_exists.1 e1
      exact absurd hM (sub_has hz L)
  | box l => cases h; exact hL
  | mp t m => cases h; exact hL
theorem BlkOk.same {w : World} {own : Bool → Nat → Prop} {γ : Nm → Value} {N : Nm} {x y : Blk} (h : BlkOk w own γ N x) (hs : SameSh x y) : BlkOk w own γ N y := by
  cases x with
  | row e c =>
    obtain ⟨c', rfl, h1, h2, h3⟩ := hs
    rcases h with ⟨h0, e0⟩ | ⟨bk, o, cap, us, e0, hp, hc, h4, h5, h6⟩
    · exact .inl ⟨by rw [h1]; exact h0, e0⟩
    · refine .inr ⟨bk, o, cap, us, by rw [h1]; exact e0, hp, by rw [h1]; exact hc, h4, by rw [h2]; exact h5, fun k j hk hj => ?_⟩
      rw [h1] at hk
      rw [h2] at hj ⊢
      obtain ⟨u, h7, ho, h8⟩ := h6 k j hk hj
      refine ⟨u, h7, ho, ?_⟩
      rcases h3 k j hk hj with e1 | ⟨e1, e2⟩
      · rw [e1]; exact h8
      · obtain ⟨z, hz⟩ := Option.isSome_iff_exists.1 e1
        obtain ⟨z', hz'⟩ := Option.isSome_iff_exists.1 e2
        unfold CellR at h8 ⊢
        rw [hz] at h8
        rw [hz']; exact h8
  | box l => cases hs; exact h
  | mp t m => cases hs; exact h

theorem CellR.keep {w w' : World} {own own' : Bool → Nat → Prop} {γ γ' : Nm → Value} {N : Nm} {i j : Nat} {a : AV} {u : Value} (h : CellR w own γ N i j a u) (hk : Keeps w w' own own') (hg : ∀ M, a.has M → γ' M = γ M)
    (hs : a.sub.isSome = true → γ' (N.kid i j) = γ (N.kid i j)) : CellR w' own' γ' N i j a u := by
  unfold CellR at h ⊢
  cases ha : a.sub with
  | none => rw [ha] at h; exact (h.keep hk).gam (fun _ => hg)
  | some z => rw [ha] at h; rw [hs (by rw [ha]; rfl)]; exact h
theorem CellR.rep {w : World} {own : Bool → Nat → Prop} {γ : Nm → Value} {N : Nm} {i j : Nat} {a : AV} {u : Value} (h : CellR w own γ N i j a u) (ha : a.sub = none) : Reps w own γ a .o [u] := by
  unfold CellR at h; rw [ha] at h; exact h
theorem CellR.of {w : World} {own : Bool → Nat → Prop} {γ : Nm → Value} {N : Nm} {i j : Nat} {a : AV} {u : Value} (h : Reps w own γ a .o [u]) : CellR w own γ N i j a u := by
  unfold CellR
  cases ha : a.sub with
  | none => exact h
  | some z => cases a <;> first | (cases ha; done) | exact h.elim
theorem CellR.own {w : World} {own : Bool → Nat → Prop} {γ : Nm → Value} {N : Nm} {i j : Nat} {a : AV} {u : Value} {z : Blk} (h : CellR w own γ N i j a u) (ha : a.sub = some z) : u = γ (N.kid i j) := by
  unfold CellR at h; rw [ha] at h; exact h
/-- A block's truth is kept where its own cells, and what is read, are as they were. -/
theorem BlkOk.keep {w w' : World} {own own' : Bool → Nat → Prop} {γ γ' : Nm → Value} {N N' : Nm} {x : Blk} (h : BlkOk w own γ N x) (hk : Keeps w w' own own') (hL : γ' N' = γ N) (hg : ∀ M, x.has M → γ' M = γ M)
    (hs : ∀ e c i j, x = .row e c → i < c.len → j < c.st → (c.cell i j).sub.isSome = true → γ' (N'.kid i j) = γ (N.kid i j))
    (hb : ∀ bk, blkOf (γ N) = some bk → w'.heap[bk]? = w.heap[bk]?) : BlkOk w' own' γ' N' x := by
  cases x with
  | box l =>
    obtain ⟨bk, us, ty, e, h1, ho, h2⟩ := h
    exact ⟨bk, us, ty, hL.trans e, (hb bk (by rw [e]; rfl)).trans h1, ho, (h2.keep hk).gam (fun _ => hg)⟩
  | row e c =>
    rcases h with ⟨h0, A, e⟩ | ⟨bk, o, cap, us, e, hp, hc, h1, h2, h3⟩
    · exact .inl ⟨h0, A, hL.trans e⟩
    · refine .inr ⟨bk, o, cap, us, hL.trans e, hp, hc, (hb bk (by rw [e, blkOf_slice hp])).trans h1, h2, fun k j hk1 hj => ?_⟩
      obtain ⟨u, h4, ho, h5⟩ := h3 k j hk1 hj
      refine ⟨u, h4, ho, ?_⟩
      unfold CellR at h5 ⊢
      cases ha : (c.cell k j).sub with
      | none => rw [ha] at h5; exact (h5.keep hk).gam (fun _ M hM => hg M ⟨k, j, hk1, hj, hM⟩)
      | some z => rw [ha] at h5; simp only at h5 ⊢; rw [h5]; exact (hs _ c k j rfl hk1 hj (by rw [ha]; rfl)).symm
  | mp t m =>
    obtain ⟨r, es, clock, e, h1, h2⟩ := h
    exact ⟨r, es, clock, hL.trans e, (hb r (by rw [e]; rfl)).trans h1, h2⟩

/-- From w to w' blocks that are owned may have changed, and there may be new ones. -/
structure Step (own : Nat → Prop) (w w' : World) : Prop where
  os : w'.os = w.os
  tape : w'.tape = w.tape
  output : w'.output = w.output
  size : w.heap.size ≤ w'.heap.size
  block : ∀ k, k < w.heap.size → ¬ own k → w'.heap[k]? = w.heap[k]?

section
variable {E : Ent0} {w w' : World} {s s' : St} {a a' : Act} {γ γ' : Nm → Value}

theorem Step.same (own : Nat → Prop) (w : World) : Step own w w := ⟨rfl, rfl, rfl, Nat.le_refl _, fun _ _ _ => rfl⟩
theorem Step.of_fr (h : Fr (fun _ => False) w w') (own : Nat → Prop) : Step own w w' := ⟨h.os, h.tape, h.output, h.size, fun k hk _ => h.block k hk id⟩
theorem own_at {N : Nm} {x : Blk} {bk : Nat} (h : s.at N x) (hb : blkOf (γ N) = some bk) : s.own γ bk := ⟨N, x, h, hb⟩

theorem step_keeps {E : Ent0} (hst : Step (s.own γ) w w') (pv : ∀ D x', s'.at D x' → ∀ bk, blkOf (γ' D) = some bk → (w.heap.size ≤ bk ∧ bk < w'.heap.size) ∨ s.own γ bk) : Keeps w w' (E.ow (s.own γ)) (E.ow (s'.own γ')) :=
  Keeps.ow E hst.size hst.block (fun k hk hn ⟨D, x', hD, hb⟩ => (pv D x' hD k hb).elim (fun h => by omega) hn)

/-- A new state that tells the truth. -/
theorem Sim.build (h : Sim E s a w γ) (hst : Step (s.own γ) w w') (hn : a'.tmps.size = s'.n) (hdf : a'.defers = []) (pv : ∀ D x', s'.at D x' → ∀ bk, blkOf (γ' D) = some bk → (w.heap.size ≤ bk ∧ bk < w'.heap.size) ∨ s.own γ bk)
    (inj : ∀ N M x y bk, s'.at N x → s'.at M y → blkOf (γ' N) = some bk → blkOf (γ' M) = some bk → N = M)
    (slots : Keeps w w' (E.ow (s.own γ)) (E.ow (s'.own γ')) → ∀ t, Reps w' (E.ow (s'.own γ')) γ' (s'.slot t) .o [a'.tmps.getD t undef])
    (blks : Keeps w w' (E.ow (s.own γ)) (E.ow (s'.own γ')) → ∀ N x, s'.at N x → BlkOk w' (E.ow (s'.own γ')) γ' N x) (wf : s'.WF) (hd : ∀ L, L < low → s'.lv (rt L) → γ' (rt L) = E.g (rt L)) : Sim E s' a' w' γ' := by
  have hk := step_keeps (E := E) hst pv
  refine ⟨hn, hdf, slots hk, blks hk, fun N x bk hN hb => ?_, inj, wf, hd, ?_⟩
  · rcases pv N x hN bk hb with h1 | ⟨M, y, hM, hb'⟩
    · have := h.fr.size
      exact ⟨h1.2, .inl (by omega)⟩
    · have := h.mine M y bk hM hb'
      exact ⟨Nat.lt_of_lt_of_le this.1 hst.size, this.2⟩
  · refine ⟨hst.os.trans h.fr.os, hst.tape.trans h.fr.tape, hst.output.trans h.fr.output, Nat.le_trans h.fr.size hst.size, fun k hk' hl => (hst.block k (Nat.lt_of_lt_of_le hk' h.fr.size) ?_).trans (h.fr.block k hk' hl)⟩
    rintro ⟨M, y, hM, hb⟩
    rcases (h.mine M y k hM hb).2 with h1 | h1
    · omega
    · exact hl h1

theorem tmps_put {a : Act} {d t : Nat} {v : Value} (hd : d < a.tmps.size) : (a.put (some d) v).tmps.getD t undef = if d = t then v else a.tmps.getD t undef := by
  simp only [Act.put, Array.getD_eq_getD_getElem?, Array.getElem?_setIfInBounds]
  by_cases h : d = t
  · subst h; simp [hd]
  · simp [h]

theorem Sim.put (h : Sim E s a w γ) {d : Nat} {v : Value} {x : AV} (hd : d < s.n) (hx : Reps w (E.ow (s.own γ)) γ x .o [v]) (hl : s.live x) : Sim E (s.put d x) (a.put (some d) v) w γ := by
  have hd' : d < a.tmps.size := by rw [h.size]; exact hd
  refine ⟨?_, h.defers, fun t => ?_, h.blks, h.mine, h.inj, ⟨fun t L hL => ?_, h.wf.blk⟩, h.hd, h.fr⟩
  · simpa [Act.put, St.put] using h.size
  · rw [tmps_put hd', St.slot_put]
    by_cases e : d = t
    · rw [if_pos e, if_pos e]; exact hx
    · rw [if_neg e, if_neg e]; exact h.slots t
  · rw [St.slot_put] at hL
    by_cases e : d = t
    · rw [if_pos e] at hL; exact hl L hL
    · rw [if_neg e] at hL; exact h.wf.slot t L hL
theorem Sim.learn (h : Sim E s a w γ) {d : Nat} {x : AV} (hx : Reps w (E.ow (s.own γ)) γ x .o [a.tmps.getD d undef]) (hl : s.live x) : Sim E (s.put d x) a w γ := by
  refine ⟨h.size, h.defers, fun t => ?_, h.blks, h.mine, h.inj, ⟨fun t L hL => ?_, h.wf.blk⟩, h.hd, h.fr⟩
  · rw [St.slot_put]
    by_cases e : d = t
    · subst e; rw [if_pos rfl]; exact hx
    · rw [if_neg e]; exact h.slots t
  · rw [St.slot_put] at hL
    by_cases e : d = t
    · rw [if_pos e] at hL; exact hl L hL
    · rw [if_neg e] at hL; exact h.wf.slot t L hL

/-- A callee has made memory, and changed nothing. -/
theorem Sim.ext (h : Sim E s a w γ) (hf : Fr (fun _ => False) w w') : Sim E s a w' γ := by
  refine h.build (Step.of_fr hf _) h.size h.defers (fun D x' hD bk hb => .inr ⟨D, x', hD, hb⟩) h.inj (fun hk t => (h.slots t).keep hk)
    (fun hk N x hN => (h.blks N x hN).keep hk rfl (fun _ _ => rfl) (fun _ _ _ _ _ _ _ _ => rfl) (fun bk hb => hf.block bk ((h.blks N x hN).lt hb) id)) h.wf h.hd
theorem Fr.drew (w : World) : Fr (fun _ => False) w { w with drawn := w.drawn + 1 } := ⟨rfl, rfl, rfl, Nat.le_refl _, fun _ _ _ => rfl⟩

/-- A block without slices of one's own in its cells. -/
def Blk.flatB (x : Blk) : Prop := ∀ e c, x = .row e c → ∀ i j, i < c.len → j < c.st → (c.cell i j).sub = none
theorem flat_at {x : Blk} (h : x.flatB) {p : List (Nat × Nat)} {z : Blk} (hz : x.At p z) : p = [] ∧ z = x := by
  cases p with
  | nil => exact ⟨rfl, hz⟩
  | cons q p =>
    obtain ⟨i, j⟩ := q
    obtain ⟨e, c, y, rfl, h1, h2, h3, _⟩ := hz
    rw [h e c rfl i j h1 h2] at h3; cases h3

theorem not_lv {L : Nat} (hL : s.rblk L = none) {N : Nm} (hN : s.lv N) : N.r ≠ L := by
  rintro rfl
  obtain ⟨x, y, h1, _⟩ := hN
  rw [hL] at h1; cases h1
theorem lv_root {N : Nm} (h : s.lv N) : (s.rblk N.r).isSome = true := by
  obtain ⟨x, y, h1, _⟩ := h; rw [h1]; rfl
theorem kid_r (N : Nm) (i j : Nat) : (N.kid i j).r = N.r := rfl

/-- A thing of one's own is made: in a new block, or (an empty slice) in none. -/
theorem Sim.new (h : Sim E s a w γ) {L : Nat} {x : Blk} {g : Value} (hL : s.rblk L = none) (hlow : low ≤ L) (hf : Fr (fun _ => False) w w') (hg : ∀ bk, blkOf g = some bk → w.heap.size ≤ bk ∧ bk < w'.heap.size) (hx0 : x.flatB)
    (hx : ∀ M, x.has M → s.lv M) (hok : Keeps w w' (E.ow (s.own γ)) (E.ow ((s.setB L (some x)).own (upd γ (rt L) g))) → BlkOk w' (E.ow ((s.setB L (some x)).own (upd γ (rt L) g))) (upd γ (rt L) g) (rt L) x) :
    Sim E (s.setB L (some x)) a w' (upd γ (rt L) g) := by
  have ne : ∀ {N : Nm}, s.lv N → N ≠ rt L := fun hN e => not_lv hL hN (by rw [e])
  have cs : ∀ {D x'}, (s.setB L (some x)).at D x' → (D = rt L ∧ x' = x) ∨ (D.r ≠ L ∧ s.at D x') := by
    intro D x' hD
    by_cases e : L = D.r
    · obtain ⟨r, p⟩ := D
      cases e
      obtain ⟨e1, e2⟩ := flat_at hx0 (at_setB_eq.1 hD)
      subst e1; exact .inl ⟨rfl, e2⟩
    · exact .inr ⟨fun e' => e e'.symm, (at_setB_ne e).1 hD⟩
  have lv : ∀ {N : Nm}, s.lv N → (s.setB L (some x)).lv N := fun {N} hN => by
    obtain ⟨y, hy⟩ := hN
    exact ⟨y, (at_setB_ne (fun e => not_lv hL ⟨y, hy⟩ e.symm)).2 hy⟩
  have gm : ∀ {N : Nm}, N.r ≠ L → upd γ (rt L) g N = γ N := fun hN => upd_ne γ g (fun e => hN (by rw [e]))
  refine h.build (Step.of_fr hf _) h.size h.defers (fun D x' hD bk hb => ?_) (fun N M y z bk hN hM hb hc => ?_) (fun hk t => ?_) (fun hk N y hN => ?_) ⟨fun t N hN => lv (h.wf.slot t N hN), fun M y N hM hN => ?_⟩ (fun M hM hl => ?_)
  · rcases cs hD with ⟨rfl, rfl⟩ | ⟨h1, h2⟩
    · rw [upd_at] at hb; exact .inl (hg bk hb)
    · rw [gm h1] at hb; exact .inr ⟨D, x', h2, hb⟩
  · have old : ∀ {D y}, s.at D y → D.r ≠ L → blkOf (upd γ (rt L) g D) = some bk → blkOf g = some bk → False := fun hD h1 hb hgk => by
      rw [gm h1] at hb
      have := (h.mine _ _ bk hD hb).1
      have := hg bk hgk
      omega
    rcases cs hN with ⟨rfl, rfl⟩ | ⟨h1, h2⟩ <;> rcases cs hM with ⟨rfl, rfl⟩ | ⟨h3, h4⟩
    · rfl
    · rw [upd_at] at hb; exact (old h4 h3 hc hb).elim
    · rw [upd_at] at hc; exact (old h2 h1 hb hc).elim
    · rw [gm h1] at hb; rw [gm h3] at hc; exact h.inj N M y z bk h2 h4 hb hc
  · exact ((h.slots t).keep hk).gam (fun _ M hM => upd_ne γ g (ne (h.wf.slot t M hM)))
  · rcases cs hN with ⟨rfl, rfl⟩ | ⟨h1, h2⟩
    · exact hok hk
    · exact (h.blks N y h2).keep hk (gm h1) (fun M hM => upd_ne γ g (ne (h.wf.blk N y M h2 hM))) (fun _ _ _ _ _ _ _ _ => gm h1) (fun bk hb => hf.block bk ((h.blks N y h2).lt hb) id)
  · rcases cs hM with ⟨rfl, rfl⟩ | ⟨h1, h2⟩
    · exact lv (hx N hN)
    · exact lv (h.wf.blk M y N h2 hN)
  · by_cases e : M = L
    · subst e; omega
    · obtain ⟨y, hy⟩ := hl
      rcases cs hy with ⟨e1, _⟩ | ⟨h1, h2⟩
      · cases e1; exact absurd rfl e
      · rw [gm h1]; exact h.hd M hM ⟨y, h2⟩
end

/-! ### A block inside another is changed -/
def Blk.asOwn : Blk → AV
  | .row e (.ints k xs) => .oi e k xs
  | .row e (.tab n st cell) => .ow e n st cell
  | _ => .top
def Blk.nest : Blk → Bool
  | .row _ (.ints _ _) => true
  | .row _ (.tab _ _ _) => true
  | _ => false
theorem asOwn_sub {y : Blk} (h : y.nest = true) : y.asOwn.sub = some y := by
  cases y with
  | row e c => cases c <;> first | rfl | cases h
  | _ => cases h
theorem nest_of_sub {a : AV} {y : Blk} (h : a.sub = some y) : y.nest = true := by
  cases a <;> cases h <;> rfl
def Ct.put (c : Ct) (i j : Nat) (a : AV) : Ct := .tab c.len c.st fun k' j' => bif Nat.beq j' j && Nat.beq k' i then a else c.cell k' j'
theorem put_eq (c : Ct) (i j : Nat) (a : AV) : (c.put i j a).cell i j = a := by simp [Ct.put, Ct.cell]
theorem put_ne (c : Ct) {i j k l : Nat} (a : AV) (h : ¬ (k = i ∧ l = j)) : (c.put i j a).cell k l = c.cell k l := by
  unfold Ct.put Ct.cell
  cases hb : (Nat.beq l j && Nat.beq k i) with
  | false => simp [hb]
  | true => simp only [Bool.and_eq_true] at hb; exact absurd ⟨Nat.eq_of_beq_eq_true hb.2, Nat.eq_of_beq_eq_true hb.1⟩ h
def Blk.upAt : Blk → List (Nat × Nat) → Blk → Blk
  | _, [], y => y
  | .row e c, (i, j) :: p, y => (match (c.cell i j).sub with | some z => .row e (c.put i j (z.upAt p y).asOwn) | none => .row e c)
  | x, _, _ => x
theorem upAt_nest : ∀ {p : List (Nat × Nat)} {x y : Blk}, x.nest = true → y.nest = true → (x.upAt p y).nest = true := by
  intro p x y hx hy
  cases p with
  | nil => cases x <;> exact hy
  | cons q p =>
    obtain ⟨i, j⟩ := q
    cases x with
    | row e c =>
      simp only [Blk.upAt]
      split
      · rfl
      · exact hx
    | _ => exact hx
/-- What lies where, behind a change at p. -/
theorem at_upAt : ∀ {p q : List (Nat × Nat)} {x y y0 z : Blk}, x.At p y0 → (p ≠ [] → y.nest = true) → (x.upAt p y).At q z → (∃ r, q = p ++ r ∧ y.At r z) ∨ ((¬ ∃ r, q = p ++ r) ∧ ∃ z1, x.At q z1 ∧ SameSh z1 z) := by
  intro p
  induction p with
  | nil => intro q x y y0 z h0 hn h; exact .inl ⟨q, rfl, by cases x <;> exact h⟩
  | cons a p ih =>
    obtain ⟨i, j⟩ := a
    rintro q x y y0 z ⟨e, c, x1, rfl, h1, h2, h3, h4⟩ hn h
    have hyn := hn (by simp)
    have hx1 := nest_of_sub h3
    simp only [Blk.upAt, h3] at h
    have hs := asOwn_sub (upAt_nest (p := p) hx1 hyn)
    cases q with
    | nil =>
      cases h
      refine .inr ⟨fun ⟨r, hr⟩ => (by cases hr), .row e c, rfl, c.put i j (x1.upAt p y).asOwn, rfl, rfl, rfl, fun i' j' hi' hj' => ?_⟩
      by_cases hij : i' = i ∧ j' = j
      · obtain ⟨rfl, rfl⟩ := hij
        exact .inr ⟨by rw [h3]; rfl, by rw [put_eq, hs]; rfl⟩
      · exact .inl (put_ne c _ hij)
    | cons b q =>
      obtain ⟨i', j'⟩ := b
      obtain ⟨e', c', x2, he, k1, k2, k3, k4⟩ := h
      cases he
      by_cases hij : i' = i ∧ j' = j
      · obtain ⟨rfl, rfl⟩ := hij
        rw [put_eq, hs] at k3
        cases k3
        rcases ih h4 (fun _ => hyn) k4 with ⟨r, rfl, hr⟩ | ⟨hr, z1, hz1, hz2⟩
        · exact .inl ⟨r, rfl, hr⟩
        · refine .inr ⟨fun ⟨r, e⟩ => hr ⟨r, by cases e; rfl⟩, z1, ⟨e, c, x1, rfl, h1, h2, h3, hz1⟩, hz2⟩
      · rw [put_ne c _ hij] at k3
        refine .inr ⟨fun ⟨r, e⟩ => hij (by cases e; exact ⟨rfl, rfl⟩), z, ⟨e, c, x2, rfl, k1, k2, k3, k4⟩, SameSh.refl z⟩
theorem upAt_at : ∀ {p : List (Nat × Nat)} {x y y0 : Blk}, x.At p y0 → (p ≠ [] → y.nest = true) → (x.upAt p y).At p y := by
  intro p
  induction p with
  | nil => intro x y y0 h hn; cases x <;> rfl
  | cons a p ih =>
    obtain ⟨i, j⟩ := a
    rintro x y y0 ⟨e, c, x1, rfl, h1, h2, h3, h4⟩ hn
    have hyn := hn (by simp)
    simp only [Blk.upAt, h3]
    exact ⟨e, _, _, rfl, h1, h2, by rw [put_eq]; exact asOwn_sub (upAt_nest (nest_of_sub h3) hyn), ih h4 (fun _ => hyn)⟩
theorem upAt_old : ∀ {p q : List (Nat × Nat)} {x y y0 z : Blk}, x.At p y0 → (p ≠ [] → y.nest = true) → x.At q z → (¬ ∃ r, q = p ++ r) → ∃ z', (x.upAt p y).At q z' := by
  intro p
  induction p with
  | nil => intro q x y y0 z h0 hn h hr; exact absurd ⟨q, rfl⟩ hr
  | cons a p ih =>
    obtain ⟨i, j⟩ := a
    rintro q x y y0 z ⟨e, c, x1, rfl, h1, h2, h3, h4⟩ hn h hr
    have hyn := hn (by simp)
    simp only [Blk.upAt, h3]
    cases q with
    | nil => exact ⟨_, rfl⟩
    | cons b q =>
      obtain ⟨i', j'⟩ := b
      obtain ⟨e', c', x2, he, k1, k2, k3, k4⟩ := h
      cases he
      by_cases hij : i' = i ∧ j' = j
      · obtain ⟨rfl, rfl⟩ := hij
        rw [h3] at k3; cases k3
        obtain ⟨z', hz'⟩ := ih (y := y) h4 (fun _ => hyn) k4 (fun ⟨r, e⟩ => hr ⟨r, by rw [e]; rfl⟩)
        exact ⟨z', e, _, _, rfl, h1, h2, by rw [put_eq]; exact asOwn_sub (upAt_nest (nest_of_sub h3) hyn), hz'⟩
      · exact ⟨z, e, _, x2, rfl, k1, k2, by rw [put_ne c _ hij]; exact k3, k4⟩

def St.setN (s : St) (N : Nm) (y : Blk) : St := match s.rblk N.r with | some x => s.setB N.r (some (x.upAt N.p y)) | none => s
section
variable {E : Ent0} {w w' : World} {s s' : St} {a a' : Act} {γ γ' : Nm → Value}
theorem setN_slot (N : Nm) (y : Blk) (t : Nat) : (s.setN N y).slot t = s.slot t := by unfold St.setN; split <;> rfl
theorem setN_n (N : Nm) (y : Blk) : (s.setN N y).n = s.n := by unfold St.setN; split <;> rfl
/-- What lies where, behind a change of N. -/
theorem at_setN {N D : Nm} {y y0 z : Blk} (h0 : s.at N y0) (hn : N.p ≠ [] → y.nest = true) (h : (s.setN N y).at D z) : (∃ r, D = ⟨N.r, N.p ++ r⟩ ∧ y.At r z) ∨ ((¬ ∃ r, D = ⟨N.r, N.p ++ r⟩) ∧ ∃ z1, s.at D z1 ∧ SameSh z1 z) := by
  obtain ⟨x, h1, h2⟩ := h0
  unfold St.setN at h
  rw [h1] at h
  by_cases e : N.r = D.r
  · obtain ⟨r, p⟩ := D
    simp only at e
    subst e
    rcases at_upAt h2 hn (at_setB_eq.1 h) with ⟨r, rfl, hr⟩ | ⟨hr, z1, hz1, hz2⟩
    · exact .inl ⟨r, rfl, hr⟩
    · exact .inr ⟨fun ⟨r, e⟩ => hr ⟨r, by cases e; rfl⟩, z1, ⟨x, h1, hz1⟩, hz2⟩
  · exact .inr ⟨fun ⟨r, e'⟩ => e (by rw [e']), z, (at_setB_ne e).1 h, SameSh.refl z⟩
theorem setN_at {N : Nm} {y y0 : Blk} (h0 : s.at N y0) (hn : N.p ≠ [] → y.nest = true) : (s.setN N y).at N y := by
  obtain ⟨x, h1, h2⟩ := h0
  unfold St.setN
  rw [h1]
  exact at_setB_eq.2 (upAt_at h2 hn)
theorem setN_sub {N : Nm} {y y0 z : Blk} {r : List (Nat × Nat)} (h0 : s.at N y0) (hn : N.p ≠ [] → y.nest = true) (hz : y.At r z) : (s.setN N y).at ⟨N.r, N.p ++ r⟩ z := by
  obtain ⟨x, h1, h2⟩ := setN_at h0 hn
  exact ⟨x, h1, at_append.2 ⟨y, h2, hz⟩⟩
theorem setN_old {N D : Nm} {y y0 z : Blk} (h0 : s.at N y0) (hn : N.p ≠ [] → y.nest = true) (h : s.at D z) (hD : ¬ ∃ r, D = ⟨N.r, N.p ++ r⟩) : (s.setN N y).lv D := by
  obtain ⟨x, h1, h2⟩ := h0
  unfold St.setN
  rw [h1]
  by_cases e : N.r = D.r
  · obtain ⟨r, p⟩ := D
    simp only at e
    subst e
    obtain ⟨x', k1, k2⟩ := h
    rw [h1] at k1; cases k1
    obtain ⟨z', hz'⟩ := upAt_old (y := y) h2 hn k2 (fun ⟨r, e⟩ => hD ⟨r, by simp only at e; rw [e]⟩)
    exact ⟨z', at_setB_eq.2 hz'⟩
  · exact ⟨z, (at_setB_ne e).2 h⟩
theorem at_below {N : Nm} {y0 z : Blk} {r : List (Nat × Nat)} (h0 : s.at N y0) : s.at ⟨N.r, N.p ++ r⟩ z ↔ y0.At r z := by
  obtain ⟨x, h1, h2⟩ := h0
  constructor
  · rintro ⟨x', k1, k2⟩
    rw [h1] at k1; cases k1
    obtain ⟨y, k3, k4⟩ := at_append.1 k2
    cases at_fun h2 k3
    exact k4
  · intro h; exact ⟨x, h1, at_append.2 ⟨y0, h2, h⟩⟩

/-- A block of one's own is written; the slices of one's own in its cells stay. -/
theorem Sim.write (h : Sim E s a w γ) {N : Nm} {bk : Nat} {y y0 : Blk} (hN : s.at N y0) (hbk : blkOf (γ N) = some bk) (hnest : N.p ≠ [] → y.nest = true) (hos : w'.os = w.os) (htape : w'.tape = w.tape) (hout : w'.output = w.output)
    (hs : w'.heap.size = w.heap.size) (hb : ∀ k, k ≠ bk → w'.heap[k]? = w.heap[k]?) (hx : ∀ M, y.has M → s.lv M)
    (hsub1 : ∀ r z, r ≠ [] → y.At r z → y0.At r z) (hsub2 : ∀ r z, r ≠ [] → y0.At r z → y.At r z)
    (hok : Keeps w w' (E.ow (s.own γ)) (E.ow (s.own γ)) → BlkOk w' (E.ow (s.own γ)) γ N y) : Sim E (s.setN N y) a w' γ := by
  have ho : s.own γ bk := ⟨N, y0, hN, hbk⟩
  have cs : ∀ {D z}, (s.setN N y).at D z → (D = N ∧ z = y) ∨ (D ≠ N ∧ ∃ z1, s.at D z1 ∧ SameSh z1 z) := by
    intro D z hD
    rcases at_setN hN hnest hD with ⟨r, rfl, hr⟩ | ⟨hr, z1, h1, h2⟩
    · cases r with
      | nil => cases hr; exact .inl ⟨by simp, rfl⟩
      | cons q r =>
        refine .inr ⟨fun e => ?_, z, (at_below hN).2 (hsub1 _ _ (by simp) hr), SameSh.refl z⟩
        have := congrArg Nm.p e
        simp at this
    · exact .inr ⟨fun e => hr ⟨[], by rw [e]; simp⟩, z1, h1, h2⟩
  have lv : ∀ {D}, s.lv D → (s.setN N y).lv D := by
    rintro D ⟨z, hz⟩
    by_cases e : ∃ r, D = ⟨N.r, N.p ++ r⟩
    · obtain ⟨r, rfl⟩ := e
      have hz' := (at_below hN).1 hz
      cases r with
      | nil => exact ⟨y, by simpa using setN_at hN hnest⟩
      | cons q r => exact ⟨z, setN_sub hN hnest (hsub2 _ _ (by simp) hz')⟩
    · exact setN_old hN hnest hz e
  have own' : (s.setN N y).own γ = s.own γ := by
    funext k
    refine propext ⟨?_, ?_⟩
    · rintro ⟨D, z, hD, hbD⟩
      rcases cs hD with ⟨rfl, rfl⟩ | ⟨_, z1, h1, _⟩
      · exact ⟨D, y0, hN, hbD⟩
      · exact ⟨D, z1, h1, hbD⟩
    · rintro ⟨D, z, hD, hbD⟩
      obtain ⟨z', hz'⟩ := lv ⟨z, hD⟩
      exact ⟨D, z', hz', hbD⟩
  have hin : ∀ {D z}, (s.setN N y).at D z → ∃ z1, s.at D z1 := by
    intro D z hD
    rcases cs hD with ⟨rfl, rfl⟩ | ⟨_, z1, h1, _⟩
    · exact ⟨_, hN⟩
    · exact ⟨_, h1⟩
  refine h.build ⟨hos, htape, hout, Nat.le_of_eq hs.symm, fun k _ hn => hb k (fun e => hn (e ▸ ho))⟩ (by rw [setN_n]; exact h.size) h.defers (fun D x' hD bk' hb' => ?_) (fun D M u v bk' hD hM hb1 hb2 => ?_) (fun hk t => ?_) (fun hk D z hD => ?_) ⟨fun t M hM => ?_, fun M z D hM hD => ?_⟩ (fun L hL hl => ?_)
  · obtain ⟨z1, h1⟩ := hin hD
    exact .inr ⟨D, z1, h1, hb'⟩
  · obtain ⟨z1, h1⟩ := hin hD
    obtain ⟨z2, h2⟩ := hin hM
    exact h.inj D M z1 z2 bk' h1 h2 hb1 hb2
  · rw [setN_slot]; exact (h.slots t).keep hk
  · rcases cs hD with ⟨rfl, rfl⟩ | ⟨hne, z1, h1, h2⟩
    · rw [own']; rw [own'] at hk; exact hok hk
    · refine BlkOk.same ?_ h2
      exact (h.blks D z1 h1).keep hk rfl (fun _ _ => rfl) (fun _ _ _ _ _ _ _ _ => rfl) (fun b2 hb2 => hb b2 (fun e => hne (h.inj D N z1 y0 bk h1 hN (e ▸ hb2) hbk)))
  · rw [setN_slot] at hM; exact lv (h.wf.slot t M hM)
  · rcases cs hM with ⟨rfl, rfl⟩ | ⟨_, z1, h1, h2⟩
    · exact lv (hx D hD)
    · exact lv (h.wf.blk M z1 D h1 (h2.has hD))
  · obtain ⟨z, hz⟩ := hl
    obtain ⟨z1, h1⟩ := hin hz
    exact h.hd L hL ⟨z1, h1⟩
end
end Go.Proofs.YtaopjdeigpiejaaDoor
namespace Go.Proofs.YtaopjdeigpiejaaDoor
open Go.RowKit
set_option linter.unusedVariables false

/-! ### names forgotten -/
def AV.kill (Q : Nm → Bool) : AV → AV
  | .cons a l => .cons (a.kill Q) (l.kill Q)
  | .agg l => .agg (l.kill Q)
  | .tup l => .tup (l.kill Q)
  | .fn f l => .fn f (l.kill Q)
  | .op N j => bif Q N then .top else .op N j
  | .om N => bif Q N then .top else .om N
  | .os N => bif Q N then .top else .os N
  | .oe N st k j => bif Q N then .top else .oe N st k j
  | .ow e n st cell => .ow e n st fun k j => (cell k j).kill Q
  | a => a
def Ct.kill (Q : Nm → Bool) : Ct → Ct
  | .tab n st cell => .tab n st fun k j => (cell k j).kill Q
  | c => c
def Blk.kill (Q : Nm → Bool) : Blk → Blk
  | .box l => .box (l.kill Q)
  | .row e c => .row e (c.kill Q)
  | x => x
def St.kill (s : St) (Q : Nm → Bool) : St := { s with slots := s.slots.map fun p => (p.1, p.2.kill Q), store := s.store.map fun p => (p.1, p.2.map (Blk.kill Q)) }

section
variable {E : Ent0} {w w' : World} {s : St} {act : Act} {γ : Nm → Value} {Q : Nm → Bool}
theorem slot_kill (s : St) (t : Nat) : (s.kill Q).slot t = (s.slot t).kill Q := by
  unfold St.slot St.kill
  induction s.slots with
  | nil => rfl
  | cons p l ih =>
    simp only [List.map_cons, lks]
    cases Nat.beq p.1 t <;> simp [ih]
theorem rblk_kill (s : St) (L : Nat) : (s.kill Q).rblk L = (s.rblk L).map (Blk.kill Q) := by
  unfold St.rblk St.kill
  induction s.store with
  | nil => rfl
  | cons p l ih =>
    simp only [List.map_cons, lkb]
    cases Nat.beq p.1 L <;> simp [ih]
theorem has_kill {L : Nm} : ∀ {a : AV}, (a.kill Q).has L → a.has L ∧ Q L = false := by
  intro a
  induction a with
  | cons a l iha ihl => rintro (h | h); exact ⟨.inl (iha h).1, (iha h).2⟩; exact ⟨.inr (ihl h).1, (ihl h).2⟩
  | agg l ih => exact ih
  | tup l ih => exact ih
  | fn f l ih => exact ih
  | op M j =>
    intro h
    unfold AV.kill at h
    cases e : Q M with
    | true => rw [e] at h; exact h.elim
    | false => rw [e] at h; exact ⟨h, by rw [← (show M = L from h)]; exact e⟩
  | om M =>
    intro h
    unfold AV.kill at h
    cases e : Q M with
    | true => rw [e] at h; exact h.elim
    | false => rw [e] at h; exact ⟨h, by rw [← (show M = L from h)]; exact e⟩
  | os M =>
    intro h
    unfold AV.kill at h
    cases e : Q M with
    | true => rw [e] at h; exact h.elim
    | false => rw [e] at h; exact ⟨h, by rw [← (show M = L from h)]; exact e⟩
  | oe M st k j =>
    intro h
    unfold AV.kill at h
    cases e : Q M with
    | true => rw [e] at h; exact h.elim
    | false => rw [e] at h; exact ⟨h, by rw [← (show M = L from h)]; exact e⟩
  | _ => intro h; exact h.elim
theorem Reps.kill {own : Bool → Nat → Prop} : ∀ {a : AV} {ro : Md} {vs : List Value}, Reps w own γ a ro vs → Reps w own γ (a.kill Q) ro vs := by
  intro a
  induction a with
  | cons a l iha ihl => rintro ro vs ⟨v, us, e, h1, h2⟩; exact ⟨v, us, e, iha h1, ihl h2⟩
  | agg l ih => rintro ro vs ⟨us, e, h1⟩; exact ⟨us, e, ih h1⟩
  | tup l ih => rintro ro vs ⟨us, e, h1⟩; exact ⟨us, e, ih h1⟩
  | fn f l ih => rintro ro vs ⟨us, e, h1⟩; exact ⟨us, e, ih h1⟩
  | op M j =>
    intro ro vs h
    unfold AV.kill
    cases Q M
    · exact h
    · obtain ⟨_, rfl, _⟩ := h; exact ⟨_, rfl⟩
  | om M =>
    intro ro vs h
    unfold AV.kill
    cases Q M
    · exact h
    · obtain ⟨_, rfl⟩ := h; exact ⟨_, rfl⟩
  | os M =>
    intro ro vs h
    unfold AV.kill
    cases Q M
    · exact h
    · obtain ⟨_, rfl⟩ := h; exact ⟨_, rfl⟩
  | oe M st k j =>
    intro ro vs h
    unfold AV.kill
    cases Q M
    · exact h
    · obtain ⟨_, rfl, _⟩ := h; exact ⟨_, rfl⟩
  | _ => intro ro vs h; exact h
theorem Ct.kill_len (c : Ct) : (c.kill Q).len = c.len := by cases c <;> rfl
theorem Ct.kill_st (c : Ct) : (c.kill Q).st = c.st := by cases c <;> rfl
theorem Ct.kill_cell (c : Ct) (k j : Nat) : (c.kill Q).cell k j = (c.cell k j).kill Q := by cases c <;> rfl
theorem sub_kill (a : AV) : (a.kill Q).sub = a.sub.map (Blk.kill Q) := by
  cases a <;> first | rfl | (simp only [AV.kill]; cases Q _ <;> rfl)
theorem hasB_kill {L : Nm} {x : Blk} (h : (x.kill Q).has L) : x.has L ∧ Q L = false := by
  cases x with
  | box l => exact has_kill h
  | row e c =>
    obtain ⟨k, j, hk, hj, h⟩ := h
    rw [Ct.kill_cell] at h
    rw [Ct.kill_len] at hk
    rw [Ct.kill_st] at hj
    exact ⟨⟨k, j, hk, hj, (has_kill h).1⟩, (has_kill h).2⟩
  | mp t m => exact h.elim
theorem CellR.kill {own : Bool → Nat → Prop} {N : Nm} {i j : Nat} {a : AV} {u : Value} (h : CellR w own γ N i j a u) : CellR w own γ N i j (a.kill Q) u := by
  unfold CellR at h ⊢
  rw [sub_kill]
  cases ha : a.sub with
  | none => rw [ha] at h; exact Reps.kill h
  | some z => rw [ha] at h; exact h
theorem BlkOk.kill {own : Bool → Nat → Prop} {N : Nm} {x : Blk} (h : BlkOk w own γ N x) : BlkOk w own γ N (x.kill Q) := by
  cases x with
  | box l => obtain ⟨bk, us, ty, e, h1, ho, h2⟩ := h; exact ⟨bk, us, ty, e, h1, ho, h2.kill⟩
  | row e c =>
    rcases h with ⟨h0, A, e⟩ | ⟨bk, o, cap, us, e, hp, hc, h1, h2, h3⟩
    · exact .inl ⟨by rw [Ct.kill_len]; exact h0, A, e⟩
    · refine .inr ⟨bk, o, cap, us, by rw [Ct.kill_len]; exact e, hp, by rw [Ct.kill_len]; exact hc, h1, by rw [Ct.kill_st]; exact h2, fun k j hk hj => ?_⟩
      rw [Ct.kill_len] at hk
      rw [Ct.kill_st] at hj ⊢
      obtain ⟨u, h4, ho, h5⟩ := h3 k j hk hj
      exact ⟨u, h4, ho, by rw [Ct.kill_cell]; exact h5.kill⟩
  | mp t m => exact h
theorem at_kill : ∀ {p : List (Nat × Nat)} {x z : Blk}, (x.kill Q).At p z ↔ ∃ y, x.At p y ∧ z = y.kill Q := by
  intro p
  induction p with
  | nil => intro x z; exact ⟨fun h => ⟨x, rfl, h⟩, fun ⟨y, h1, h2⟩ => by cases h1; exact h2⟩
  | cons q p ih =>
    obtain ⟨i, j⟩ := q
    intro x z
    constructor
    · rintro ⟨e, c, y, he, h1, h2, h3, h4⟩
      cases x with
      | row e' c' =>
        cases he
        rw [Ct.kill_cell, sub_kill] at h3
        cases hs : (c'.cell i j).sub with
        | none => rw [hs] at h3; cases h3
        | some x1 =>
          rw [hs] at h3; cases h3
          obtain ⟨y', h5, h6⟩ := ih.1 h4
          exact ⟨y', ⟨_, c', x1, rfl, by rw [Ct.kill_len] at h1; exact h1, by rw [Ct.kill_st] at h2; exact h2, hs, h5⟩, h6⟩
      | box l => cases he
      | mp t m => cases he
    · rintro ⟨y, ⟨e, c, x1, rfl, h1, h2, h3, h4⟩, rfl⟩
      exact ⟨e, c.kill Q, x1.kill Q, rfl, by rw [Ct.kill_len]; exact h1, by rw [Ct.kill_st]; exact h2, by rw [Ct.kill_cell, sub_kill, h3]; rfl, ih.2 ⟨y, h4, rfl⟩⟩
theorem of_kill {N : Nm} {z : Blk} : (s.kill Q).at N z ↔ ∃ y, s.at N y ∧ z = y.kill Q := by
  unfold St.at AtL
  constructor
  · rintro ⟨x, h1, h2⟩
    rw [rblk_kill] at h1
    cases hb : s.rblk N.r with
    | none => rw [hb] at h1; cases h1
    | some x0 =>
      rw [hb] at h1; cases h1
      obtain ⟨y, h3, h4⟩ := at_kill.1 h2
      exact ⟨y, ⟨x0, rfl, h3⟩, h4⟩
  · rintro ⟨y, ⟨x, h1, h2⟩, rfl⟩
    exact ⟨x.kill Q, by rw [rblk_kill, h1]; rfl, at_kill.2 ⟨y, h2, rfl⟩⟩
theorem lv_kill {N : Nm} : (s.kill Q).lv N ↔ s.lv N := ⟨fun ⟨z, hz⟩ => by obtain ⟨y, hy, _⟩ := of_kill.1 hz; exact ⟨y, hy⟩, fun ⟨y, hy⟩ => ⟨_, of_kill.2 ⟨y, hy, rfl⟩⟩⟩
theorem own_kill : (s.kill Q).own γ = s.own γ := by
  funext k
  refine propext ⟨?_, ?_⟩
  · rintro ⟨N, x, h1, h2⟩
    obtain ⟨y, hy, _⟩ := of_kill.1 h1
    exact ⟨N, y, hy, h2⟩
  · rintro ⟨N, x, h1, h2⟩
    exact ⟨N, _, of_kill.2 ⟨x, h1, rfl⟩, h2⟩
theorem Sim.kill (h : Sim E s act w γ) (Q : Nm → Bool) : Sim E (s.kill Q) act w γ := by
  refine ⟨h.size, h.defers, fun t => ?_, fun N x hN => ?_, fun N x bk hN hb => ?_, fun N M x y bk hN hM hb hc => ?_, ⟨fun t N hN => ?_, fun M x N hM hN => ?_⟩, fun L hL hl => h.hd L hL (lv_kill.1 hl), h.fr⟩
  · rw [own_kill, slot_kill]; exact (h.slots t).kill
  · obtain ⟨y, h1, rfl⟩ := of_kill.1 hN
    rw [own_kill]; exact (h.blks N y h1).kill
  · obtain ⟨y, h1, rfl⟩ := of_kill.1 hN
    exact h.mine N y bk h1 hb
  · obtain ⟨y', h1, rfl⟩ := of_kill.1 hN
    obtain ⟨z', h2, rfl⟩ := of_kill.1 hM
    exact h.inj N M y' z' bk h1 h2 hb hc
  · rw [slot_kill] at hN
    exact lv_kill.2 (h.wf.slot t N (has_kill hN).1)
  · obtain ⟨y, h1, rfl⟩ := of_kill.1 hM
    exact lv_kill.2 (h.wf.blk M y N h1 (hasB_kill hN).1)

def atR (R : Nat) (N : Nm) : Bool := Nat.beq N.r R
theorem atR_ne {R : Nat} {N : Nm} (h : atR R N = false) : N.r ≠ R := fun e => by unfold atR at h; rw [e, Nat.beq_refl] at h; cases h
/-- Nothing speaks of names under R. -/
structure Quiet (s : St) (R : Nat) : Prop where
  slot : ∀ t N, (s.slot t).has N → N.r ≠ R
  blk : ∀ M y N, s.at M y → y.has N → N.r ≠ R
theorem quiet_kill (s : St) (R : Nat) : Quiet (s.kill (atR R)) R :=
  ⟨fun t N hN => by rw [slot_kill] at hN; exact atR_ne (has_kill hN).2, fun M y N hM hN => by obtain ⟨z, _, rfl⟩ := of_kill.1 hM; exact atR_ne (hasB_kill hN).2⟩
theorem quiet_none (h : Sim E s act w γ) {R : Nat} (hR : s.rblk R = none) : Quiet s R :=
  ⟨fun t N hN => not_lv hR (h.wf.slot t N hN), fun M y N hM hN => not_lv hR (h.wf.blk M y N hM hN)⟩

/-- A thing of one's own (R) is replaced, which nothing else speaks of: it may lie in another block now. The slices of one's own in its cells stay where they are. -/
theorem Sim.replace (h : Sim E s act w γ) {R : Nat} {x : Blk} {g : Value} (hlow : low ≤ R) (hq : Quiet s R) (hos : w'.os = w.os) (htape : w'.tape = w.tape) (hout : w'.output = w.output) (hs : w.heap.size ≤ w'.heap.size)
    (hb : ∀ k, k < w.heap.size → (s.lv (rt R) → blkOf (γ (rt R)) ≠ some k) → w'.heap[k]? = w.heap[k]?)
    (hg : ∀ bk, blkOf g = some bk → (w.heap.size ≤ bk ∧ bk < w'.heap.size) ∨ (s.lv (rt R) ∧ blkOf (γ (rt R)) = some bk))
    (hx : ∀ M, x.has M → M.r ≠ R ∧ s.lv M) (hsub : ∀ p z, p ≠ [] → x.At p z → s.at ⟨R, p⟩ z)
    (hok : Keeps w w' (E.ow (s.own γ)) (E.ow ((s.setB R (some x)).own (upd γ (rt R) g))) → BlkOk w' (E.ow ((s.setB R (some x)).own (upd γ (rt R) g))) (upd γ (rt R) g) (rt R) x) : Sim E (s.setB R (some x)) act w' (upd γ (rt R) g) := by
  have cs : ∀ {D z}, (s.setB R (some x)).at D z → (D = rt R ∧ z = x) ∨ (D ≠ rt R ∧ s.at D z) := by
    intro D z hD
    by_cases e : R = D.r
    · obtain ⟨r, p⟩ := D
      cases e
      have h1 := at_setB_eq.1 hD
      cases p with
      | nil => cases h1; exact .inl ⟨rfl, rfl⟩
      | cons q p => exact .inr ⟨fun e => (by cases e), hsub _ _ (by simp) h1⟩
    · exact .inr ⟨fun e' => e (by rw [e']), (at_setB_ne e).1 hD⟩
  have gm : ∀ {N : Nm}, N ≠ rt R → upd γ (rt R) g N = γ N := fun hN => upd_ne γ g hN
  have lv : ∀ {N : Nm}, N.r ≠ R → s.lv N → (s.setB R (some x)).lv N := fun hN ⟨y, hy⟩ => ⟨y, (at_setB_ne (Ne.symm hN)).2 hy⟩
  have other : ∀ M y bk, s.at M y → M ≠ rt R → blkOf (γ M) = some bk → w'.heap[bk]? = w.heap[bk]? := fun M y bk hM e hbk =>
    hb bk (h.mine M y bk hM hbk).1 (fun ⟨z, hz⟩ h2 => e (h.inj M (rt R) y z bk hM hz hbk h2))
  refine h.build (s' := s.setB R (some x)) (γ' := upd γ (rt R) g) ⟨hos, htape, hout, hs, fun k hk hn => hb k hk (fun ⟨z, hz⟩ h2 => hn ⟨_, z, hz, h2⟩)⟩ h.size h.defers (fun D z hD bk hbk => ?_) (fun D M y z bk hD hM hbk hc => ?_) (fun hk t => ?_) (fun hk D z hD => ?_) ⟨fun t M hM => ?_, fun M y N hM hN => ?_⟩ (fun L hL hl => ?_)
  · rcases cs hD with ⟨rfl, rfl⟩ | ⟨h1, h2⟩
    · rw [upd_at] at hbk
      rcases hg bk hbk with h3 | ⟨⟨z', hz'⟩, h3⟩
      · exact .inl h3
      · exact .inr ⟨_, z', hz', h3⟩
    · rw [gm h1] at hbk; exact .inr ⟨D, z, h2, hbk⟩
  · have one : ∀ {D y}, s.at D y → D ≠ rt R → blkOf (upd γ (rt R) g D) = some bk → blkOf g = some bk → False := fun {D y} hD e hbk hgk => by
      rw [gm e] at hbk
      rcases hg bk hgk with h1 | ⟨⟨z', hz'⟩, h3⟩
      · have := (h.mine D y bk hD hbk).1; omega
      · exact e (h.inj D (rt R) y z' bk hD hz' hbk h3)
    rcases cs hD with ⟨rfl, rfl⟩ | ⟨h1, h2⟩ <;> rcases cs hM with ⟨rfl, rfl⟩ | ⟨h3, h4⟩
    · rfl
    · rw [upd_at] at hbk; exact (one h4 h3 hc hbk).elim
    · rw [upd_at] at hc; exact (one h2 h1 hbk hc).elim
    · rw [gm h1] at hbk; rw [gm h3] at hc; exact h.inj D M y z bk h2 h4 hbk hc
  · exact ((h.slots t).keep hk).gam (fun _ M hM => gm (fun e => hq.slot t M hM (by rw [e])))
  · rcases cs hD with ⟨rfl, rfl⟩ | ⟨h1, h2⟩
    · exact hok hk
    · exact (h.blks D z h2).keep hk (gm h1) (fun M hM => gm (fun e => hq.blk D z M h2 hM (by rw [e]))) (fun _ _ i j _ _ _ _ => gm (fun e => by have := congrArg Nm.p e; simp [Nm.kid] at this)) (fun bk hbk => other D z bk h2 h1 hbk)
  · exact lv (hq.slot t M hM) (h.wf.slot t M hM)
  · rcases cs hM with ⟨rfl, rfl⟩ | ⟨h1, h2⟩
    · exact lv (hx N hN).1 (hx N hN).2
    · exact lv (hq.blk M y N h2 hN) (h.wf.blk M y N h2 hN)
  · have e : rt L ≠ rt R := fun e => by have := congrArg Nm.r e; simp only at this; omega
    obtain ⟨z, hz⟩ := hl
    rcases cs hz with ⟨h1, _⟩ | ⟨_, h2⟩
    · exact absurd h1 e
    · rw [gm e]; exact h.hd L hL ⟨z, h2⟩

/-! ### a slice given to a cell -/
def after : List (Nat × Nat) → List (Nat × Nat) → Option (List (Nat × Nat))
  | [], q => some q
  | a :: p, b :: q => if a = b then after p q else none
  | _ :: _, [] => none
theorem after_some : ∀ {p q r : List (Nat × Nat)}, after p q = some r ↔ q = p ++ r
  | [], q, r => by simp [after]
  | a :: p, [], r => by simp [after]
  | a :: p, b :: q, r => by
    simp only [after]
    by_cases e : a = b
    · subst e; simp [after_some]
    · rw [if_neg e]
      constructor
      · intro h; cases h
      · intro h; exact absurd (List.cons.inj h).1.symm e
def mvG (N : Nm) (i j R : Nat) (γ : Nm → Value) (D : Nm) : Value :=
  if D.r = N.r then (match after (N.p ++ [(i, j)]) D.p with | some r => γ ⟨R, r⟩ | none => γ D) else γ D
theorem mvG_in (N : Nm) (i j R : Nat) (γ : Nm → Value) (r : List (Nat × Nat)) : mvG N i j R γ ⟨N.r, N.p ++ (i, j) :: r⟩ = γ ⟨R, r⟩ := by
  unfold mvG
  have : after (N.p ++ [(i, j)]) (N.p ++ (i, j) :: r) = some r := after_some.2 (by simp)
  simp only [this, if_true]
theorem mvG_out {N : Nm} {i j R : Nat} {γ : Nm → Value} {D : Nm} (h : ¬ ∃ r, D = ⟨N.r, N.p ++ (i, j) :: r⟩) : mvG N i j R γ D = γ D := by
  unfold mvG
  by_cases e : D.r = N.r
  · rw [if_pos e]
    cases ha : after (N.p ++ [(i, j)]) D.p with
    | none => rfl
    | some r =>
      exact absurd ⟨r, by have := after_some.1 ha; obtain ⟨dr, dp⟩ := D; simp only at e this ⊢; rw [e, this]; simp⟩ h
  · rw [if_neg e]
/-- The slice R, of which the cell i, j of N (a row) speaks, is given to that cell. -/
def St.mv (s : St) (N : Nm) (i j R : Nat) : St :=
  match s.blk N, s.rblk R with
  | some (.row e c), some y => ((s.kill (atR R)).setB R none).setN N (.row e ((c.kill (atR R)).put i j (y.kill (atR R)).asOwn))
  | _, _ => s
theorem at_setNone {L : Nat} {N : Nm} {x : Blk} : (s.setB L none).at N x ↔ N.r ≠ L ∧ s.at N x := by
  by_cases e : L = N.r
  · unfold St.at AtL
    rw [St.rblk_setB, if_pos e]
    exact ⟨fun ⟨_, h, _⟩ => (by cases h), fun h => absurd e.symm h.1⟩
  · rw [at_setB_ne e]; exact ⟨fun h => ⟨fun e' => e e'.symm, h⟩, fun h => h.2⟩
theorem Sim.mv (h : Sim E s act w γ) {N : Nm} {e : TypeId} {c : Ct} {i j R : Nat} {y : Blk} (hN : s.at N (.row e c)) (hi : i < c.len) (hj : j < c.st) (hc : c.cell i j = .os (rt R)) (hR : s.rblk R = some y) (hy : y.nest = true) (hne : N.r ≠ R) :
    ∃ γ', Sim E (s.mv N i j R) act w γ' := by
  have hRat : s.at (rt R) y := at_root.2 hR
  refine ⟨mvG N i j R γ, ?_⟩
  unfold St.mv
  rw [St.at_blk hN, hR]
  simp only
  have hk0 := h.kill (atR R)
  have q0 := quiet_kill s R
  -- the state without R
  have hN1 : ((s.kill (atR R)).setB R none).at N (.row e (c.kill (atR R))) := at_setNone.2 ⟨hne, of_kill.2 ⟨_, hN, rfl⟩⟩
  have hnest : (y.kill (atR R)).nest = true := by
    cases y with
    | row e c => cases c <;> first | rfl | cases hy
    | _ => cases hy
  have hcs : ((c.kill (atR R)).cell i j).sub = none := by rw [Ct.kill_cell, hc]; simp [AV.kill, AV.sub, atR]
  have hnp : N.p ≠ [] → (Blk.row e ((c.kill (atR R)).put i j (y.kill (atR R)).asOwn)).nest = true := fun _ => rfl
  -- what lies where
  have cs : ∀ {D z}, (((s.kill (atR R)).setB R none).setN N (.row e ((c.kill (atR R)).put i j (y.kill (atR R)).asOwn))).at D z →
      (D = N ∧ z = .row e ((c.kill (atR R)).put i j (y.kill (atR R)).asOwn)) ∨ (∃ r z0, D = ⟨N.r, N.p ++ (i, j) :: r⟩ ∧ s.at ⟨R, r⟩ z0 ∧ z = z0.kill (atR R)) ∨
      (D ≠ N ∧ (¬ ∃ r, D = ⟨N.r, N.p ++ (i, j) :: r⟩) ∧ D.r ≠ R ∧ ∃ z1, s.at D z1 ∧ SameSh (z1.kill (atR R)) z) := by
    intro D z hD
    rcases at_setN hN1 hnp hD with ⟨r, rfl, hr⟩ | ⟨hr, z1, h1, h2⟩
    · cases r with
      | nil => cases hr; exact .inl ⟨by simp, rfl⟩
      | cons q r =>
        obtain ⟨i', j'⟩ := q
        obtain ⟨e', c', y', he, k1, k2, k3, k4⟩ := hr
        cases he
        by_cases hij : i' = i ∧ j' = j
        · obtain ⟨rfl, rfl⟩ := hij
          rw [put_eq, asOwn_sub hnest] at k3
          cases k3
          obtain ⟨z0, h5, h6⟩ := at_kill.1 k4
          exact .inr (.inl ⟨r, z0, rfl, ⟨y, hR, h5⟩, h6⟩)
        · rw [put_ne _ _ hij] at k3
          refine .inr (.inr ⟨fun e1 => ?_, fun ⟨r', e1⟩ => ?_, hne, ?_⟩)
          · have := congrArg Nm.p e1
            simp at this
          · have := congrArg Nm.p e1
            simp at this
            exact hij ⟨this.1.1, this.1.2⟩
          · have h5 : (s.kill (atR R)).at ⟨N.r, N.p ++ (i', j') :: r⟩ z := (at_below (of_kill.2 ⟨_, hN, rfl⟩)).2 ⟨_, c.kill (atR R), y', rfl, k1, k2, k3, k4⟩
            obtain ⟨z0, h6, h7⟩ := of_kill.1 h5
            exact ⟨z0, h6, by rw [h7]; exact SameSh.refl _⟩
    · obtain ⟨h3, h4⟩ := at_setNone.1 h1
      obtain ⟨z0, h5, rfl⟩ := of_kill.1 h4
      exact .inr (.inr ⟨fun e1 => hr ⟨[], by rw [e1]; simp⟩, fun ⟨r, e1⟩ => hr ⟨_, e1⟩, h3, z0, h5, h2⟩)
  have lv : ∀ {D}, s.lv D → D.r ≠ R → (¬ ∃ r, D = ⟨N.r, N.p ++ (i, j) :: r⟩) → (((s.kill (atR R)).setB R none).setN N (.row e ((c.kill (atR R)).put i j (y.kill (atR R)).asOwn))).lv D := by
    rintro D ⟨z, hz⟩ hD1 hD2
    have hz1 : ((s.kill (atR R)).setB R none).at D (z.kill (atR R)) := at_setNone.2 ⟨hD1, of_kill.2 ⟨z, hz, rfl⟩⟩
    by_cases e1 : ∃ r, D = ⟨N.r, N.p ++ r⟩
    · obtain ⟨r, rfl⟩ := e1
      cases r with
      | nil => exact ⟨_, by simpa using setN_at hN1 hnp⟩
      | cons q r =>
        obtain ⟨i', j'⟩ := q
        have hz2 := (at_below hN1).1 hz1
        obtain ⟨e', c', y', he, k1, k2, k3, k4⟩ := hz2
        cases he
        have hij : ¬ (i' = i ∧ j' = j) := fun ⟨a, b⟩ => hD2 ⟨r, by rw [a, b]⟩
        exact ⟨_, setN_sub hN1 hnp (r := (i', j') :: r) ⟨_, _, y', rfl, k1, k2, by rw [put_ne _ _ hij]; exact k3, k4⟩⟩
    · exact setN_old hN1 hnp hz1 e1
  -- a live name does not lie behind the cell yet
  have nob : ∀ {D}, s.lv D → ¬ ∃ r, D = ⟨N.r, N.p ++ (i, j) :: r⟩ := by
    rintro D ⟨z, hz⟩ ⟨r, rfl⟩
    obtain ⟨e', c', y', he, k1, k2, k3, k4⟩ := (at_below hN).1 hz
    cases he
    rw [hc] at k3; cases k3
  have gm : ∀ {D}, s.lv D → mvG N i j R γ D = γ D := fun hD => mvG_out (nob hD)
  have gmr : ∀ {L}, mvG N i j R γ (rt L) = γ (rt L) := fun {L} => mvG_out (fun ⟨r, e1⟩ => by have := congrArg Nm.p e1; simp at this)
  refine h.build (Step.same _ w) (by rw [setN_n]; exact h.size) h.defers (fun D z hD bk hb => ?_) (fun D M u v bk hD hM hb hc' => ?_) (fun hk t => ?_) (fun hk D z hD => ?_) ⟨fun t M hM => ?_, fun M z D hM hD => ?_⟩ (fun L hL hl => ?_)
  · rcases cs hD with ⟨rfl, rfl⟩ | ⟨r, z0, rfl, h1, rfl⟩ | ⟨_, h2, _, z1, h3, _⟩
    · rw [gm ⟨_, hN⟩] at hb; exact .inr ⟨_, _, hN, hb⟩
    · rw [mvG_in] at hb; exact .inr ⟨_, z0, h1, hb⟩
    · rw [mvG_out h2] at hb; exact .inr ⟨_, z1, h3, hb⟩
  · rcases cs hD with ⟨rfl, rfl⟩ | ⟨r, z0, rfl, h1, rfl⟩ | ⟨e1, h2, e2, z1, h3, _⟩ <;> rcases cs hM with ⟨rfl, rfl⟩ | ⟨r', z0', rfl, h1', rfl⟩ | ⟨e1', h2', e2', z1', h3', _⟩
    · rfl
    · rw [gm ⟨_, hN⟩] at hb; rw [mvG_in] at hc'
      have := h.inj _ _ _ _ bk hN h1' hb hc'
      exact absurd (congrArg Nm.r this) hne
    · rw [gm ⟨_, hN⟩] at hb; rw [mvG_out h2'] at hc'
      exact h.inj _ _ _ _ bk hN h3' hb hc'
    · rw [mvG_in] at hb; rw [gm ⟨_, hN⟩] at hc'
      have := h.inj _ _ _ _ bk h1 hN hb hc'
      exact absurd (congrArg Nm.r this).symm hne
    · rw [mvG_in] at hb hc'
      have := h.inj _ _ _ _ bk h1 h1' hb hc'
      have := congrArg Nm.p this
      simp only at this
      rw [this]
    · rw [mvG_in] at hb; rw [mvG_out h2'] at hc'
      have := h.inj _ _ _ _ bk h1 h3' hb hc'
      exact absurd (congrArg Nm.r this).symm e2'
    · rw [mvG_out h2] at hb; rw [gm ⟨_, hN⟩] at hc'
      exact h.inj _ _ _ _ bk h3 hN hb hc'
    · rw [mvG_out h2] at hb; rw [mvG_in] at hc'
      have := h.inj _ _ _ _ bk h3 h1' hb hc'
      exact absurd (congrArg Nm.r this) e2
    · rw [mvG_out h2] at hb; rw [mvG_out h2'] at hc'
      exact h.inj _ _ _ _ bk h3 h3' hb hc'
  · rw [setN_slot]
    show Reps w _ _ ((s.kill (atR R)).slot t) .o _
    have := hk0.slots t
    rw [own_kill] at this
    exact (this.keep hk).gam (fun _ M hM => gm (lv_kill.1 (hk0.wf.slot t M hM)))
  · rcases cs hD with ⟨rfl, rfl⟩ | ⟨r, z0, rfl, h1, rfl⟩ | ⟨e1, h2, e2, z1, h3, h4⟩
    · have hb := (h.blks D _ hN).kill (Q := atR R)
      rcases hb with ⟨h0, _⟩ | ⟨bk, o, cap, us, h1, hp, h2, h3, h4, h5⟩
      · rw [Ct.kill_len] at h0; omega
      · refine .inr ⟨bk, o, cap, us, by rw [gm ⟨_, hN⟩]; exact h1, hp, h2, h3, h4, fun k l hk1 hl => ?_⟩
        have e4 : ((c.kill (atR R)).put i j (y.kill (atR R)).asOwn).len = (c.kill (atR R)).len := rfl
        have e5 : ((c.kill (atR R)).put i j (y.kill (atR R)).asOwn).st = (c.kill (atR R)).st := rfl
        rw [e5] at hl ⊢
        rw [e4] at hk1
        obtain ⟨u, h6, h7, h8⟩ := h5 k l hk1 hl
        refine ⟨u, h6, h7, ?_⟩
        by_cases hij : k = i ∧ l = j
        · obtain ⟨rfl, rfl⟩ := hij
          rw [put_eq]
          unfold CellR
          rw [asOwn_sub hnest]
          simp only
          rcases h.blks D _ hN with ⟨h0, _⟩ | ⟨bk', o', cap', us', k1, kp, k2, k3, k4, k5⟩
          · omega
          · obtain ⟨u', k6, k7, k8⟩ := k5 k l hi hj
            rw [Ct.kill_len] at h1
            rw [k1] at h1
            cases h1
            rw [k3] at h3
            cases h3
            rw [Ct.kill_st, k6] at h6
            cases h6
            have k9 := k8.rep (by rw [hc]; rfl)
            rw [hc] at k9
            have k10 : u = γ (rt R) := by simpa [Reps] using k9.2
            rw [k10]
            exact (mvG_in D k l R γ []).symm
        · rw [put_ne _ _ hij]
          refine h8.keep hk (fun M hM => gm ?_) (fun hs => ?_)
          · rw [Ct.kill_cell] at hM
            exact h.wf.blk D _ M hN ⟨k, l, by rw [Ct.kill_len] at hk1; exact hk1, by rw [Ct.kill_st] at hl; exact hl, (has_kill hM).1⟩
          · obtain ⟨z2, hz2⟩ := Option.isSome_iff_exists.1 hs
            rw [Ct.kill_cell, sub_kill] at hz2
            cases hq : (c.cell k l).sub with
            | none => rw [hq] at hz2; cases hz2
            | some z3 => exact gm ⟨z3, at_kid hN (by rw [Ct.kill_len] at hk1; exact hk1) (by rw [Ct.kill_st] at hl; exact hl) hq⟩
    · refine ((h.blks _ z0 h1).kill (Q := atR R)).keep hk (mvG_in _ _ _ _ _ _) (fun M hM => gm (h.wf.blk _ z0 M h1 (hasB_kill hM).1)) (fun e1 c1 i1 j1 _ _ _ _ => ?_) (fun bk hb => rfl)
      have : (⟨N.r, N.p ++ (i, j) :: r⟩ : Nm).kid i1 j1 = ⟨N.r, N.p ++ (i, j) :: (r ++ [(i1, j1)])⟩ := by simp [Nm.kid]
      rw [this, mvG_in]
      rfl
    · refine BlkOk.same ?_ h4
      refine ((h.blks D z1 h3).kill (Q := atR R)).keep hk (gm ⟨_, h3⟩) (fun M hM => gm (h.wf.blk D z1 M h3 (hasB_kill hM).1)) (fun e5 c5 i5 j5 h6 h7 h8 h9 => ?_) (fun bk hb => rfl)
      cases z1 with
      | row e6 c6 =>
        cases h6
        rw [Ct.kill_cell, sub_kill] at h9
        cases hq : (c6.cell i5 j5).sub with
        | none => rw [hq] at h9; cases h9
        | some z3 => exact gm ⟨z3, at_kid h3 (by rw [Ct.kill_len] at h7; exact h7) (by rw [Ct.kill_st] at h8; exact h8) hq⟩
      | box l => cases h6
      | mp t m => cases h6
  · rw [setN_slot] at hM
    have hM' : ((s.kill (atR R)).slot t).has M := hM
    have := lv_kill.1 (hk0.wf.slot t M hM')
    exact lv this (q0.slot t M hM') (nob this)
  · rcases cs hM with ⟨rfl, rfl⟩ | ⟨r, z0, rfl, h1, rfl⟩ | ⟨e1, h2, e2, z1, h3, h4⟩
    · obtain ⟨k, l, hk1, hl, hD⟩ := hD
      by_cases hij : k = i ∧ l = j
      · obtain ⟨rfl, rfl⟩ := hij
        rw [put_eq] at hD
        exact absurd hD (sub_has (asOwn_sub hnest) D)
      · rw [put_ne _ _ hij, Ct.kill_cell] at hD
        have e5 : ((c.kill (atR R)).put i j (y.kill (atR R)).asOwn).len = (c.kill (atR R)).len := rfl
        have e6 : ((c.kill (atR R)).put i j (y.kill (atR R)).asOwn).st = (c.kill (atR R)).st := rfl
        rw [e5, Ct.kill_len] at hk1
        rw [e6, Ct.kill_st] at hl
        have := h.wf.blk M _ D hN ⟨k, l, hk1, hl, (has_kill hD).1⟩
        exact lv this (atR_ne (has_kill hD).2) (nob this)
    · have := h.wf.blk _ z0 D h1 (hasB_kill hD).1
      exact lv this (atR_ne (hasB_kill hD).2) (nob this)
    · have hD' := h4.has hD
      have := h.wf.blk M z1 D h3 (hasB_kill hD').1
      exact lv this (atR_ne (hasB_kill hD').2) (nob this)
  · obtain ⟨z, hz⟩ := hl
    rw [gmr]
    rcases cs hz with ⟨e1, _⟩ | ⟨r, z0, e1, _⟩ | ⟨_, _, _, z1, h3, _⟩
    · exact h.hd L hL (by rw [e1]; exact ⟨_, hN⟩)
    · have := congrArg Nm.p e1; simp at this
    · exact h.hd L hL ⟨z1, h3⟩
end
end Go.Proofs.YtaopjdeigpiejaaDoor
namespace Go.Proofs.YtaopjdeigpiejaaDoor
open Go.RowKit
set_option linter.unusedVariables false

def AV.len : AV → Nat
  | .nil => 0
  | .cons _ l => l.len + 1
  | _ => 1
def AV.nth : AV → Nat → AV
  | .cons a _, 0 => a
  | .cons _ l, n + 1 => l.nth n
  | .nil, _ => .top
  | a, 0 => a
  | _, _ + 1 => .top
def AV.drop : Nat → AV → AV
  | 0, l => l
  | n + 1, .cons _ l => l.drop n
  | _ + 1, _ => .nil
def AV.take : Nat → AV → AV
  | 0, _ => .nil
  | n + 1, .cons a l => .cons a (l.take n)
  | _ + 1, a => a
def AV.app : AV → AV → AV
  | .nil, m => m
  | .cons a l, m => .cons a (l.app m)
  | a, m => .cons a m
def AV.cells : AV → AV
  | .agg l => l
  | a => a
def AV.splice (l : AV) (j : Nat) (m : AV) : AV := (l.take j).app (m.app (l.drop (j + m.len)))
/-- The value of one cell. -/
def AV.one : AV → Bool
  | .c v => v.oneCell'
  | .top => false
  | .nil => false
  | .cons _ _ => false
  | .agg _ => false
  | .tup _ => false
  | _ => true
def AV.ones : AV → Bool
  | .nil => true
  | .cons a l => a.one && l.ones
  | a => a.one

section
variable {w : World} {own : Bool → Nat → Prop} {γ : Nm → Value} {ro : Md}

theorem Reps.len : ∀ {a : AV} {us : List Value}, Reps w own γ a ro us → us.length = a.len := by
  intro a
  induction a with
  | nil => intro us h; cases (show us = [] from h); rfl
  | cons a l iha ihl => rintro us ⟨v, vs, rfl, _, h2⟩; simp [AV.len, ihl h2]
  | top => rintro us ⟨v, rfl⟩; rfl
  | e0 => rintro us ⟨v, rfl⟩; rfl
  | agg l ih => rintro us ⟨v, rfl, _⟩; rfl
  | tup l ih => rintro us ⟨v, rfl, _⟩; rfl
  | fn f l ih => rintro us ⟨v, rfl, _⟩; rfl
  | op L j => rintro us ⟨_, rfl, _⟩; rfl
  | os L => rintro us ⟨_, rfl⟩; rfl
  | om L => rintro us ⟨_, rfl⟩; rfl
  | oi e k xs => intro us h; exact h.elim
  | ow e n st cell => intro us h; exact h.elim
  | oe L st k j => rintro us ⟨_, rfl, _⟩; rfl
  | ri f q xs => rintro us ⟨_, _, rfl, _⟩; rfl
  | rs f n st cell => rintro us ⟨_, _, rfl, _⟩; rfl
  | rp f n st cell k j => rintro us ⟨_, _, rfl, _⟩; rfl
  | _ => intro us h; simp only [Reps] at h; subst h; rfl

theorem AV.nth_one {a : AV} (h : a.len = 1) (h1 : ∀ x l, a ≠ .cons x l) : a.nth 0 = a := by
  cases a with
  | nil => cases h
  | cons x l => exact absurd rfl (h1 x l)
  | _ => rfl

theorem Reps.nth : ∀ {l : AV} {us : List Value} {j : Nat}, Reps w own γ l ro us → j < l.len → ∃ u, us[j]? = some u ∧ Reps w own γ (l.nth j) ro [u] := by
  intro l
  induction l with
  | nil => intro us j h hj; cases hj
  | cons a l iha ihl =>
    rintro us j ⟨v, vs, rfl, h1, h2⟩ hj
    cases j with
    | zero => exact ⟨v, rfl, h1⟩
    | succ j =>
      obtain ⟨u, h3, h4⟩ := ihl h2 (j := j) (by simpa [AV.len] using hj)
      exact ⟨u, by simpa using h3, h4⟩
  | _ =>
    intro us j h hj
    have hl := h.len
    simp only [AV.len] at hl hj
    obtain rfl : j = 0 := by omega
    match us, hl with
    | [u], _ => exact ⟨u, rfl, h⟩

theorem Reps.drop : ∀ {l : AV} {us : List Value} (j : Nat), Reps w own γ l ro us → Reps w own γ (l.drop j) ro (us.drop j) := by
  intro l
  induction l with
  | cons a l iha ihl =>
    rintro us j ⟨v, vs, rfl, h1, h2⟩
    cases j with
    | zero => exact ⟨v, vs, rfl, h1, h2⟩
    | succ j => simpa [AV.drop] using ihl j h2
  | _ =>
    intro us j h
    cases j with
    | zero => exact h
    | succ j =>
      have hl := h.len
      simp only [AV.len] at hl
      show us.drop (j + 1) = []
      exact List.drop_eq_nil_of_le (by omega)

theorem Reps.take : ∀ {l : AV} {us : List Value} (j : Nat), Reps w own γ l ro us → Reps w own γ (l.take j) ro (us.take j) := by
  intro l
  induction l with
  | cons a l iha ihl =>
    rintro us j ⟨v, vs, rfl, h1, h2⟩
    cases j with
    | zero => rfl
    | succ j => exact ⟨v, vs.take j, by simp, h1, ihl j h2⟩
  | _ =>
    intro us j h
    cases j with
    | zero => rfl
    | succ j =>
      have hl := h.len
      simp only [AV.len] at hl
      rw [List.take_of_length_le (by omega)]
      exact h

theorem Reps.app : ∀ {l m : AV} {us vs : List Value}, Reps w own γ l ro us → Reps w own γ m ro vs → Reps w own γ (l.app m) ro (us ++ vs) := by
  intro l
  induction l with
  | nil => intro m us vs h k; cases (show us = [] from h); exact k
  | cons a l iha ihl =>
    rintro m us vs ⟨v, us', rfl, h1, h2⟩ k
    exact ⟨v, us' ++ vs, rfl, h1, ihl h2 k⟩
  | _ =>
    intro m us vs h k
    have hl := h.len
    simp only [AV.len] at hl
    match us, hl with
    | [u], _ => exact ⟨u, vs, rfl, h, k⟩

theorem Reps.splice {l m : AV} {us vs : List Value} (j : Nat) (h : Reps w own γ l ro us) (k : Reps w own γ m ro vs) : Reps w own γ (l.splice j m) ro (us.take j ++ vs ++ us.drop (j + vs.length)) := by
  rw [List.append_assoc, k.len]
  exact (h.take j).app (k.app (h.drop _))

theorem ptrAt_one (v : Value) (j : Nat) : (ptrAt v j).oneCell' = true := by
  unfold ptrAt
  split <;> rfl
theorem Reps.one {a : AV} {v : Value} (h : Reps w own γ a ro [v]) (h1 : a.one = true) (hg : ∀ L, a.has L → (γ L).oneCell' = true) : v.oneCell' = true := by
  cases a with
  | c u => cases h; exact h1
  | top => cases h1
  | nil => cases h1
  | cons x l => cases h1
  | agg l => cases h1
  | tup l => cases h1
  | fn f l => obtain ⟨us, e, _⟩ := h; cases e; rfl
  | op L j => obtain ⟨_, e, _⟩ := h; cases e; exact ptrAt_one _ _
  | oe L st k j => obtain ⟨_, e, _⟩ := h; cases e; exact ptrAt_one _ _
  | os L => obtain ⟨_, e⟩ := h; cases e; exact hg L rfl
  | om L => obtain ⟨_, e⟩ := h; cases e; exact hg L rfl
  | oi e k xs => exact h.elim
  | ow e n st cell => exact h.elim
  | e0 => obtain ⟨_, e⟩ := h; cases e; rfl
  | ri f q xs => obtain ⟨_, _, e, _⟩ := h; cases e; rfl
  | rs f n st cell => obtain ⟨_, _, e, _⟩ := h; cases e; rfl
  | rp f n st cell k j => obtain ⟨_, _, e, _⟩ := h; cases e; rfl
  | _ => cases h; rfl
theorem Reps.ones : ∀ {a : AV} {us : List Value}, Reps w own γ a ro us → a.ones = true → (∀ L, a.has L → (γ L).oneCell' = true) → ∀ u ∈ us, u.oneCell' = true := by
  intro a
  induction a with
  | nil => intro us h _ _ u hu; cases (show us = [] from h); cases hu
  | cons a l iha ihl =>
    rintro us ⟨v, vs, rfl, h1, h2⟩ ho hg u hu
    simp only [AV.ones, Bool.and_eq_true] at ho
    rcases List.mem_cons.1 hu with rfl | hu
    · exact h1.one ho.1 (fun L hL => hg L (.inl hL))
    · exact ihl h2 ho.2 (fun L hL => hg L (.inr hL)) u hu
  | _ =>
    intro us h ho hg u hu
    have hl := h.len
    simp only [AV.len] at hl
    match us, hl with
    | [v], _ =>
      cases List.mem_singleton.1 hu
      exact Reps.one h (by simpa [AV.ones] using ho) hg
/-- A value that a variable can hold. -/
def AV.flat : AV → Bool
  | .agg l => l.ones
  | a => a.one
theorem Reps.cells {a : AV} {v : Value} (h : Reps w own γ a ro [v]) (hf : a.flat = true) (hg : ∀ L, a.has L → (γ L).oneCell' = true) :
    Reps w own γ a.cells ro v.cells.toList ∧ ∀ u ∈ v.cells.toList, u.oneCell' = true := by
  by_cases ha : ∃ l, a = .agg l
  · obtain ⟨l, rfl⟩ := ha
    obtain ⟨us, e, h1⟩ := h
    cases e
    exact ⟨by simpa [AV.cells, Value.cells] using h1, by simpa [Value.cells] using h1.ones hf hg⟩
  · have hc : a.cells = a := by cases a <;> first | rfl | exact absurd ⟨_, rfl⟩ ha
    have h1 : a.one = true := by cases a <;> first | exact hf | exact absurd ⟨_, rfl⟩ ha
    have hv := h.one h1 hg
    have hvc : v.cells.toList = [v] := by cases v <;> first | rfl | cases hv
    rw [hc, hvc]
    exact ⟨h, fun u hu => by cases List.mem_singleton.1 hu; exact hv⟩
end
end Go.Proofs.YtaopjdeigpiejaaDoor
namespace Go.Proofs.YtaopjdeigpiejaaDoor
open Go.RowKit
set_option linter.unusedVariables false

/-- What the code needs of a type: is it a struct; its cells, bytes, zero; its fields' places and sizes; a slice's elements; its kind of integers; a map's keys and elements. -/
structure TyI where
  agg : Bool
  size : Nat
  bytes : Nat
  zero : AV
  flds : List (Nat × Nat)
  elem : Nat
  ik : Option IntKind
  mp : Option (Nat × Nat)
  eqi : Bool
def ty? : List (Nat × TyI) → Nat → Option TyI
  | [], _ => none
  | p :: l, t => bif Nat.beq p.1 t then some p.2 else ty? l t
def zero1 : AV → Value → Bool
  | .int k n, .int q m => decide (k = q) && decide (n = m)
  | .ff, .bool false => true
  | .s x, .string y => decide (x = y)
  | .nl, .slice none 0 0 => true
  | .c (.map none), .map none => true
  | .c (.pointer none), .pointer none => true
  | .c .nilFunc, .nilFunc => true
  | .c .nilIface, .nilIface => true
  | _, _ => false
def zeroB : AV → List Value → Bool
  | .nil, [] => true
  | .cons a l, v :: vs => zero1 a v && zeroB l vs
  | _, _ => false
def fldsB (P : Program) : List Field → List (Nat × Nat) → Bool
  | [], [] => true
  | f :: fs, (o, z) :: l => decide (f.offset = o) && decide ((P.info? f.type).map (·.size) = some z) && fldsB P fs l
  | _, _ => false
/-- A struct of integers alone, from offset k on. -/
def eqiF (P : Program) : Nat → List Field → Bool
  | _, [] => true
  | k, f :: fs => (f.name != "_") && decide (f.offset = k) && (match P.underlying f.type with | some (.int .i64) => true | _ => false) && eqiF P (k + 1) fs
def eqiB (P : Program) (t : Nat) (fs : List Field) : Bool := !(P.stoodInHeld t) && !(P.eqGuardType P.depth t) && eqiF P 0 fs
/-- Fields of one cell are no structs. -/
def flatB (P : Program) (fs : List Field) : Bool :=
  fs.all fun f => match P.underlying f.type with
    | some (.struct _) => !decide ((P.info? f.type).map (·.size) = some 1)
    | some (.array _ _) => !decide ((P.info? f.type).map (·.size) = some 1)
    | some _ => true
    | none => false
def tyChk (P : Program) (t : Nat) (i : TyI) : Bool :=
  (match P.underlying t with
   | some (.struct fs) => i.agg && fldsB P fs.toList i.flds && decide (i.elem = 0) && decide (i.ik = none) && decide (i.mp = none) && (!i.eqi || eqiB P t fs.toList) && flatB P fs.toList
   | some (.array _ _) => false
   | some (.slice e) => !i.agg && decide (i.elem = e) && decide (i.ik = none) && decide (i.mp = none) && !i.eqi
   | some (.int k) => !i.agg && decide (i.elem = 0) && decide (i.ik = some k) && decide (i.mp = none) && !i.eqi
   | some (.map k e) => !i.agg && decide (i.elem = 0) && decide (i.ik = none) && decide (i.mp = some (k, e)) && !i.eqi
   | some .bool => !i.agg && decide (i.elem = 0) && decide (i.ik = none) && decide (i.mp = none)
   | some _ => !i.agg && decide (i.elem = 0) && decide (i.ik = none) && decide (i.mp = none) && !i.eqi
   | none => false) &&
  (match P.info? t with
   | some inf => decide (inf.size = i.size) && decide (inf.bytes = i.bytes) && decide (i.zero.len = i.size) && (match inf.zero with | some z => zeroB i.zero z.cells.toList && (i.agg || (match z with | .agg _ => false | _ => true)) | none => false)
   | none => false)
def TyOk (P : Program) (τ : List (Nat × TyI)) : Prop := ∀ t i, ty? τ t = some i → tyChk P t i = true
theorem TyOk.of {P : Program} {τ : List (Nat × TyI)} (h : (τ.all fun p => tyChk P p.1 p.2) = true) : TyOk P τ := by
  intro t i
  induction τ with
  | nil => intro h; cases h
  | cons p l ih =>
    intro h1
    simp only [List.all_cons, Bool.and_eq_true] at h
    unfold ty? at h1
    cases hb : Nat.beq p.1 t with
    | true =>
      rw [hb] at h1
      obtain rfl := Nat.eq_of_beq_eq_true hb
      cases h1
      exact h.1
    | false => rw [hb] at h1; exact ih h.2 h1

section
variable {P : Program} {t : Nat} {i : TyI} {w : World} {own : Bool → Nat → Prop} {γ : Nm → Value} {ro : Md}
theorem zero1_spec {a : AV} {v : Value} (h : zero1 a v = true) : Reps w own γ a ro [v] ∧ a.one = true ∧ ∀ L, ¬ a.has L := by
  unfold zero1 at h
  split at h <;> first
    | (simp only [Bool.and_eq_true, decide_eq_true_eq] at h; obtain ⟨rfl, rfl⟩ := h; exact ⟨rfl, rfl, fun _ h => h⟩)
    | (simp only [decide_eq_true_eq] at h; subst h; exact ⟨rfl, rfl, fun _ h => h⟩)
    | exact ⟨rfl, rfl, fun _ h => h⟩
    | cases h
theorem zero1_sub {a : AV} {v : Value} (h : zero1 a v = true) : a.sub = none := by
  unfold zero1 at h
  split at h <;> first | rfl | cases h
theorem zeroB_sub : ∀ {a : AV} {vs : List Value}, zeroB a vs = true → ∀ j, (a.nth j).sub = none := by
  intro a
  induction a with
  | nil => intro vs h j; rfl
  | cons a l iha ihl =>
    intro vs h j
    cases vs with
    | nil => cases h
    | cons v vs =>
      simp only [zeroB, Bool.and_eq_true] at h
      cases j with
      | zero => exact zero1_sub h.1
      | succ j => exact ihl h.2 j
  | _ => intro vs h; unfold zeroB at h; cases h
theorem zeroB_spec : ∀ {a : AV} {vs : List Value}, zeroB a vs = true → Reps w own γ a ro vs ∧ a.ones = true ∧ ∀ L, ¬ a.has L := by
  intro a
  induction a with
  | nil => intro vs h; cases vs with | nil => exact ⟨rfl, rfl, fun _ h => h⟩ | cons v vs => cases h
  | cons a l iha ihl =>
    intro vs h
    cases vs with
    | nil => cases h
    | cons v vs =>
      simp only [zeroB, Bool.and_eq_true] at h
      obtain ⟨h1, h2, h3⟩ := zero1_spec (w := w) (own := own) (γ := γ) (ro := ro) h.1
      obtain ⟨h4, h5, h6⟩ := ihl h.2
      exact ⟨⟨v, vs, rfl, h1, h4⟩, by simp [AV.ones, h2, h5], fun L hL => hL.elim (h3 L) (h6 L)⟩
  | _ => intro vs h; unfold zeroB at h; cases h
theorem tyChk_info (h : tyChk P t i = true) : ∃ inf z, P.info? t = some inf ∧ inf.size = i.size ∧ inf.bytes = i.bytes ∧ inf.zero = some z ∧ zeroB i.zero z.cells.toList = true := by
  simp only [tyChk, Bool.and_eq_true] at h
  have h2 := h.2
  cases hi : P.info? t with
  | none => rw [hi] at h2; cases h2
  | some inf =>
    rw [hi] at h2
    simp only [Bool.and_eq_true, decide_eq_true_eq] at h2
    cases hz : inf.zero with
    | none => rw [hz] at h2; cases h2.2
    | some z =>
      rw [hz] at h2
      simp only [Bool.and_eq_true] at h2
      exact ⟨inf, z, rfl, h2.1.1.1, h2.1.1.2, hz, h2.2.1⟩
theorem tyChk_flat (h : tyChk P t i = true) (ha : i.agg = false) : ∃ inf z, P.info? t = some inf ∧ inf.zero = some z ∧ zeroB i.zero z.cells.toList = true ∧ z.cells = #[z] := by
  simp only [tyChk, Bool.and_eq_true] at h
  have h2 := h.2
  cases hi : P.info? t with
  | none => rw [hi] at h2; cases h2
  | some inf =>
    rw [hi] at h2
    simp only [Bool.and_eq_true, decide_eq_true_eq] at h2
    cases hz : inf.zero with
    | none => rw [hz] at h2; cases h2.2
    | some z =>
      rw [hz] at h2
      simp only [Bool.and_eq_true, ha, Bool.false_or] at h2
      refine ⟨inf, z, rfl, hz, h2.2.1, ?_⟩
      have h3 := h2.2.2
      cases z <;> first | rfl | (cases h3; done)
theorem tyChk_zero (h : tyChk P t i = true) : i.zero.len = i.size := by
  simp only [tyChk, Bool.and_eq_true] at h
  have h2 := h.2
  cases hi : P.info? t with
  | none => rw [hi] at h2; cases h2
  | some inf =>
    rw [hi] at h2
    simp only [Bool.and_eq_true, decide_eq_true_eq] at h2
    exact h2.1.2
theorem tyChk_agg (h : tyChk P t i = true) : (isAgg t).run P w = .ok i.agg w := by
  simp only [tyChk, Bool.and_eq_true] at h
  have h1 := h.1
  cases hd : P.underlying t with
  | none => rw [hd] at h1; cases h1
  | some d =>
    rw [hd] at h1
    cases d <;> simp_all [isAgg, run_underlying hd]
theorem tyChk_elem (h : tyChk P t i = true) (he : i.elem ≠ 0) : P.underlying t = some (.slice i.elem) := by
  simp only [tyChk, Bool.and_eq_true] at h
  have h1 := h.1
  cases hd : P.underlying t with
  | none => rw [hd] at h1; cases h1
  | some d => rw [hd] at h1; cases d <;> simp_all
theorem tyChk_ik (h : tyChk P t i = true) {k : IntKind} (hk : i.ik = some k) : P.underlying t = some (.int k) := by
  simp only [tyChk, Bool.and_eq_true] at h
  have h1 := h.1
  cases hd : P.underlying t with
  | none => rw [hd] at h1; cases h1
  | some d => rw [hd] at h1; cases d <;> simp_all
theorem tyChk_mp (h : tyChk P t i = true) {k e : Nat} (hk : i.mp = some (k, e)) : P.underlying t = some (.map k e) := by
  simp only [tyChk, Bool.and_eq_true] at h
  have h1 := h.1
  cases hd : P.underlying t with
  | none => rw [hd] at h1; cases h1
  | some d => rw [hd] at h1; cases d <;> simp_all
theorem fldsB_at : ∀ {fs : List Field} {l : List (Nat × Nat)} {f o z : Nat}, fldsB P fs l = true → l[f]? = some (o, z) → ∃ fd, fs[f]? = some fd ∧ fd.offset = o ∧ (P.info? fd.type).map (·.size) = some z := by
  intro fs
  induction fs with
  | nil => intro l f o z h hf; cases l with | nil => cases hf | cons p l => cases h
  | cons fd fs ih =>
    intro l f o z h hf
    cases l with
    | nil => cases h
    | cons p l =>
      simp only [fldsB, Bool.and_eq_true, decide_eq_true_eq] at h
      cases f with
      | zero => cases hf; exact ⟨fd, rfl, h.1.1, h.1.2⟩
      | succ f => exact ih h.2 hf
theorem tyChk_struct (h : tyChk P t i = true) (ha : i.agg = true) : ∃ fs, P.underlying t = some (.struct fs) ∧ fldsB P fs.toList i.flds = true := by
  simp only [tyChk, Bool.and_eq_true] at h
  have h1 := h.1
  cases hd : P.underlying t with
  | none => rw [hd] at h1; cases h1
  | some d => rw [hd] at h1; cases d <;> simp_all
theorem tyChk_part (h : tyChk P t i = true) (ha : i.agg = true) {f o : Nat} (hf : i.flds[f]? = some (o, 1)) :
    ∃ fs fd, P.underlying t = some (.struct fs) ∧ fs[f]? = some fd ∧ fd.offset = o ∧ ∀ w, (isAgg fd.type).run P w = .ok false w := by
  obtain ⟨fs, h1, h2⟩ := tyChk_struct h ha
  obtain ⟨fd, h3, h4, h5⟩ := fldsB_at h2 hf
  have h6 : flatB P fs.toList = true := by
    simp only [tyChk, Bool.and_eq_true] at h
    have h7 := h.1
    rw [h1] at h7
    simp only [Bool.and_eq_true] at h7
    exact h7.2
  refine ⟨fs, fd, h1, by simpa using h3, h4, fun w => ?_⟩
  have h7 := (List.all_eq_true.1 h6) fd (List.mem_of_getElem? h3)
  cases hd : P.underlying fd.type with
  | none => rw [hd] at h7; cases h7
  | some d =>
    rw [hd] at h7
    cases d with
    | struct _ => simp only [h5] at h7; simp at h7
    | array _ _ => simp only [h5] at h7; simp at h7
    | _ => simp [isAgg, run_underlying hd]
theorem tyChk_eqi (h : tyChk P t i = true) (ha : i.agg = true) (he : i.eqi = true) : ∃ fs, P.underlying t = some (.struct fs) ∧ fldsB P fs.toList i.flds = true ∧ eqiB P t fs.toList = true := by
  simp only [tyChk, Bool.and_eq_true] at h
  have h1 := h.1
  cases hd : P.underlying t with
  | none => rw [hd] at h1; cases h1
  | some d => rw [hd] at h1; cases d <;> simp_all
theorem tyChk_bl (h : tyChk P t i = true) (ha : i.agg = false) (he : i.eqi = true) : P.underlying t = some .bool := by
  simp only [tyChk, Bool.and_eq_true] at h
  have h1 := h.1
  cases hd : P.underlying t with
  | none => rw [hd] at h1; cases h1
  | some d => rw [hd] at h1; cases d <;> simp_all
theorem fldsB_len : ∀ {fs : List Field} {l : List (Nat × Nat)}, fldsB P fs l = true → l.length = fs.length := by
  intro fs
  induction fs with
  | nil => intro l h; cases l with | nil => rfl | cons p l => cases h
  | cons fd fs ih =>
    intro l h
    cases l with
    | nil => cases h
    | cons p l =>
      simp only [fldsB, Bool.and_eq_true] at h
      simp [ih h.2]
theorem tyChk_fld (h : tyChk P t i = true) {f o z : Nat} (hf : i.flds[f]? = some (o, z)) (ha : i.agg = true) :
    ∃ fs fd inf, P.underlying t = some (.struct fs) ∧ fs[f]? = some fd ∧ fd.offset = o ∧ P.info? fd.type = some inf ∧ inf.size = z := by
  obtain ⟨fs, h1, h2⟩ := tyChk_struct h ha
  obtain ⟨fd, h3, h4, h5⟩ := fldsB_at h2 hf
  cases hi : P.info? fd.type with
  | none => rw [hi] at h5; cases h5
  | some inf => rw [hi] at h5; exact ⟨fs, fd, inf, h1, by simpa using h3, h4, hi, by simpa using h5⟩
end

/-- Constants. -/
def cv : Value → AV
  | .int k n => .int k n
  | .bool true => .tt
  | .bool false => .ff
  | .string x => .s x
  | .slice none 0 0 => .nl
  | v => .c v
def St.ev (s : St) : Operand → AV
  | .tmp t => s.slot t
  | .const v => cv v
  | .global g => .c (.pointer (some ⟨g, 0, none⟩))
  | .func f => .fn f .nil
def St.evs (s : St) : List Operand → AV
  | [] => .nil
  | x :: l => .cons (s.ev x) (s.evs l)

/-- What comes of an operation. 'new': the block is made, and named beforehand. 'ar': an integer that may lie out of its kind's range. -/
inductive Out where
  | val (a : AV)
  | cond (p : Prop) (a : AV)
  | ar (k : IntKind) (n : Int)
  | idx (m : Int) (n : Nat) (f : Nat → AV)
  | split (x : Bool) (a b : AV)
  | new (x : Blk) (a : AV)
  | mk (m c : Int) (f : Nat → Blk) (a : AV)
  | slc (lo hi : Option Int) (n : Nat) (f : Nat → Nat → AV)
  | call (f : Nat) (args : AV)
  | bad

def inK : IntKind → Int → Prop
  | .i8, n => -128 ≤ n ∧ n ≤ 127
  | .i16, n => -32768 ≤ n ∧ n ≤ 32767
  | .i32, n => -2147483648 ≤ n ∧ n ≤ 2147483647
  | .i64, n => -9223372036854775808 ≤ n ∧ n ≤ 9223372036854775807
  | .u8, n => 0 ≤ n ∧ n ≤ 255
  | .u16, n => 0 ≤ n ∧ n ≤ 65535
  | .u32, n => 0 ≤ n ∧ n ≤ 4294967295
  | .u64, n => 0 ≤ n ∧ n ≤ 18446744073709551615
theorem wrap_in {k : IntKind} {n : Int} (h : inK k n) : k.wrap n = n := by
  cases k <;> simp only [inK] at h <;> simp only [IntKind.wrap, IntKind.bits, IntKind.signed] <;> simp <;> omega

def addA (a : AV) (o : Nat) : AV :=
  match a with
  | .op N j => .op N (j + o)
  | .oe N st k j => .oe N st k (j + o)
  | .rp f n st cell k j => .rp f n st cell k (j + o)
  | _ => .top
/-- The cells j, j + 1, .. of a table's row. -/
def rowA (cell : Nat → AV) (j : Nat) : Nat → AV
  | 0 => .nil
  | n + 1 => .cons (cell j) (rowA cell (j + 1) n)
/-- What is read out of the cell k, j of the row N. -/
def ldc (N : Nm) (cell : Nat → Nat → AV) (k j : Nat) : AV :=
  match cell k j with
  | .oi _ _ _ => .os (N.kid k j)
  | .ow _ _ _ _ => .os (N.kid k j)
  | a => a
def loadA (s : St) (agg : Bool) (size : Nat) (a : AV) : Out :=
  match a with
  | .op N j =>
    match s.blk N with
    | some (.box l) => bif agg then (bif Nat.ble (j + size) l.len then .val (.agg ((l.drop j).take size)) else .bad) else (bif Nat.blt j l.len then .val (l.nth j) else .bad)
    | _ => .bad
  | .oe N st k j =>
    match s.blk N with
    | some (.row _ c) => bif Nat.beq c.st st then (bif agg then (bif Nat.ble (j + size) st then .cond (k < c.len) (.agg (rowA (ldc N c.cell k) j size)) else .bad) else (bif Nat.blt j st then .cond (k < c.len) (ldc N c.cell k j) else .bad)) else .bad
    | _ => .bad
  | .rp _ n st cell k j => bif agg then (bif Nat.ble (j + size) st then .val (.agg (rowA (cell k) j size)) else .bad) else (bif Nat.blt j st then .val (cell k j) else .bad)
  | _ => .bad
def bitsA (op : BinOp) (k : IntKind) (a b : Int) : Int :=
  match op with
  | .and => k.wrap ((BitVec.ofInt k.bits a &&& BitVec.ofInt k.bits b).toNat : Int)
  | .or => k.wrap ((BitVec.ofInt k.bits a ||| BitVec.ofInt k.bits b).toNat : Int)
  | .xor => k.wrap ((BitVec.ofInt k.bits a ^^^ BitVec.ofInt k.bits b).toNat : Int)
  | _ => 0
def binA (op : BinOp) (x y : AV) : Out :=
  match x with
  | .int k a =>
    match y with
    | .int q b =>
      match op with
      | .shr => .cond (0 ≤ b) (.int k (a.fdiv (2 ^ min b.toNat k.bits)))
      | .shl => .cond (0 ≤ b) (.int k (k.wrap (a * 2 ^ min b.toNat k.bits)))
      | _ =>
        bif decide (k = q) then
          match op with
          | .add => .ar k (a + b)
          | .sub => .ar k (a - b)
          | .mul => .ar k (a * b)
          | .quo => .cond (b ≠ 0 ∧ inK k (a.tdiv b)) (.int k (a.tdiv b))
          | .rem => .cond (b ≠ 0) (.int k (a.tmod b))
          | .and => .val (.int k (bitsA .and k a b))
          | .or => .val (.int k (bitsA .or k a b))
          | .xor => .val (.int k (bitsA .xor k a b))
          | .eql => .val (.b (decide (a = b)))
          | .neq => .val (.b (decide (a ≠ b)))
          | .lss => .val (.b (decide (a < b)))
          | .leq => .val (.b (decide (a ≤ b)))
          | .gtr => .val (.b (decide (b < a)))
          | .geq => .val (.b (decide (b ≤ a)))
          | _ => .bad
        else .bad
    | _ => .bad
  | .s a =>
    match y with
    | .s b =>
      match op with
      | .add => .cond (a.size + b.size ≤ 9223372036854775807) (.s (a ++ b))
      | .eql => .val (.b (a.toList == b.toList))
      | .neq => .val (.b !(a.toList == b.toList))
      | _ => .bad
    | _ => .bad
  | _ => .bad
def notA (x : AV) : Out :=
  match x with
  | .tt => .val .ff
  | .ff => .val .tt
  | .b x => .val (.b (!x))
  | _ => .bad
def Mc.len : Mc → Nat
  | .ints _ es => es.length
  | .bools es => es.length
/-- kind: 0: slices, 1: maps, 2: strings. -/
def lenA (s : St) (kind : Nat) (x : AV) : Out :=
  match x with
  | .ri _ _ xs => bif Nat.beq kind 0 then .val (.i xs.length) else .bad
  | .rs _ n _ _ => bif Nat.beq kind 0 then .val (.i n) else .bad
  | .nl => bif Nat.beq kind 0 then .val (.i 0) else .bad
  | .e0 => bif Nat.beq kind 0 then .val (.i 0) else .bad
  | .os N => bif Nat.beq kind 0 then (match s.blk N with | some (.row _ c) => .val (.i c.len) | _ => .bad) else .bad
  | .om N => bif Nat.beq kind 1 then (match s.blk N with | some (.mp _ m) => .val (.i m.len) | _ => .bad) else .bad
  | .s b => bif Nat.beq kind 2 then .val (.i b.size) else .bad
  | _ => .bad
def idxA (s : St) (z : Nat) (x ix : AV) : Out :=
  match ix with
  | .int _ m =>
    match x with
    | .ri f q xs => bif Nat.beq z 1 then .idx m xs.length fun k => .rp f xs.length 1 (ci q xs) k 0 else .bad
    | .rs f n st cell => bif Nat.beq z st then .idx m n fun k => .rp f n st cell k 0 else .bad
    | .os N => match s.blk N with | some (.row _ c) => bif Nat.beq z c.st then .idx m c.len fun k => .oe N c.st k 0 else .bad | _ => .bad
    | _ => .bad
  | _ => .bad
/-- Fields filled into a struct's zero. -/
def fillA (flds : List (Nat × Nat)) (l : AV) : List (Nat × AV) → Option AV
  | [] => some l
  | (i, a) :: rest =>
    match flds[i]? with
    | some (o, z) => bif a.flat && Nat.beq a.cells.len z && Nat.ble (o + z) l.len then fillA flds (l.splice o a.cells) rest else none
    | none => none
def intsOf (k : IntKind) : AV → Option (List Int)
  | .nil => some []
  | .cons (.int q n) l => bif decide (q = k) then (match intsOf k l with | some xs => some (n :: xs) | none => none) else none
  | _ => none
/-- The parts of a literal, each at its place. -/
def partsA (s : St) (z : Nat) : Nat → List (Nat × Operand) → Option AV
  | _, [] => some .nil
  | k, (i, x) :: rest => bif Nat.beq i k && (s.ev x).flat && Nat.beq (s.ev x).cells.len z then (match partsA s z (k + 1) rest with | some l => some ((s.ev x).cells.app l) | none => none) else none
/-- A row that holds these cells; 'zero': the elements' zero. -/
def ctOf (zero : AV) (z n : Nat) (l : AV) : Ct :=
  match zero with
  | .cons (.int k _) .nil => (match intsOf k l with | some xs => .ints k xs | none => .tab n z fun k j => l.nth (k * z + j))
  | _ => .tab n z fun k j => l.nth (k * z + j)
def zeroCt (zero : AV) (z n : Nat) : Ct :=
  match zero with
  | .cons (.int k m) .nil => .ints k (List.replicate n m)
  | .cons .ff .nil => .bools (List.replicate n false)
  | _ => .tab n z fun _ j => zero.nth j
def bndA : Option AV → Option (Option Int)
  | none => some none
  | some (.int _ m) => some (some m)
  | _ => none
def sliceA (z : Nat) (x : AV) (lo hi : Option AV) : Out :=
  match bndA lo, bndA hi with
  | some l, some h =>
    match x with
    | .ri f q xs => bif Nat.beq z 1 then .slc l h xs.length fun l h => .ri f q ((xs.take h).drop l) else .bad
    | .rs f n st cell => bif Nat.beq z st then .slc l h n fun l h => .rs f (h - l) st fun k j => cell (k + l) j else .bad
    | _ => .bad
  | _, _ => .bad
/-- x[:0:0] -/
def slice0A (s : St) (x : AV) (lo : Option AV) (hi mx : AV) : Out :=
  match lo, hi, mx with
  | none, .int _ h, .int _ m =>
    bif decide (h = 0) && decide (m = 0) then
      (match x with
       | .ri _ _ _ => .val .e0
       | .rs _ _ _ _ => .val .e0
       | .nl => .val .e0
       | .e0 => .val .e0
       | .os N => (match s.blk N with | some (.row _ _) => .val .e0 | _ => .bad)
       | _ => .bad)
    else .bad
  | _, _, _ => .bad
/-- The map's zero element as what it would hold. -/
def mpOf (zero : AV) : Option Mc :=
  match zero with
  | .cons (.int k n) .nil => bif decide (n = 0) then some (.ints k []) else none
  | .cons .ff .nil => some (.bools [])
  | _ => none
def mfind {α : Type} : List (Int × α) → Int → Option α
  | [], _ => none
  | p :: l, x => if x = p.1 then some p.2 else mfind l x
def mgetI (l : List (Int × Int)) (x : Int) : Int := (mfind l x).getD 0
def mgetB (l : List (Int × Bool)) (x : Int) : Bool := (mfind l x).getD false
def mhas {α : Type} (l : List (Int × α)) (x : Int) : Bool := (mfind l x).isSome
def mset {α : Type} : List (Int × α) → Int → α → List (Int × α)
  | [], x, v => [(x, v)]
  | p :: l, x, v => if x = p.1 then (x, v) :: l else p :: mset l x v
def lkA (s : St) (t : Nat) (z : Option Mc) (x ix : AV) (ok : Bool) : Out :=
  match x, ix with
  | .om N, .int .i64 n =>
    (match s.blk N with
     | some (.mp t' m) =>
       bif Nat.beq t' t then
         (match m, z with
          | .ints k es, some (.ints k' _) => bif decide (k' = k) then .val (bif ok then .tup (.cons (.int k (mgetI es n)) (.cons (.b (mhas es n)) .nil)) else .int k (mgetI es n)) else .bad
          | .bools es, some (.bools _) => .val (bif ok then .tup (.cons (.b (mgetB es n)) (.cons (.b (mhas es n)) .nil)) else .b (mgetB es n))
          | _, _ => .bad)
       else .bad
     | _ => .bad)
  | _, _ => .bad
/-- Two structs of integers held against each other. -/
def eqlA (τ : List (Nat × TyI)) (op : BinOp) (t : Nat) (l l' : AV) : Out :=
  match op with
  | .eql =>
    (match ty? τ t with
     | some i =>
       bif i.agg && i.eqi then
         (match intsOf .i64 l, intsOf .i64 l' with
          | some a, some b => bif Nat.beq a.length i.flds.length && Nat.beq b.length i.flds.length then .val (.b (decide (a = b))) else .bad
          | _, _ => .bad)
       else .bad
     | none => .bad)
  | _ => .bad
/-- Two bools, of which one is not known. -/
def blA (τ : List (Nat × TyI)) (op : BinOp) (t : Nat) (p r : Bool) : Out :=
  match op with
  | .eql => (match ty? τ t with | some i => bif !i.agg && i.eqi then .val (.b (p == r)) else .bad | none => .bad)
  | .neq => (match ty? τ t with | some i => bif !i.agg && i.eqi then .val (.b (!(p == r))) else .bad | none => .bad)
  | _ => .bad
def binQ (τ : List (Nat × TyI)) (op : BinOp) (t : Nat) (x y : AV) : Out :=
  match x with
  | .agg l => (match y with | .agg l' => eqlA τ op t l l' | _ => .bad)
  | .b p => (match y with | .b r => blA τ op t p r | .tt => blA τ op t p true | .ff => blA τ op t p false | _ => .bad)
  | .tt => (match y with | .b r => blA τ op t true r | .tt => blA τ op t true true | .ff => blA τ op t true false | _ => .bad)
  | .ff => (match y with | .b r => blA τ op t false r | .tt => blA τ op t false true | .ff => blA τ op t false false | _ => .bad)
  | x => binA op x y
def negA (x : AV) : Out :=
  match x with
  | .int k n => .ar k (0 - n)
  | _ => .bad
def q (τ : List (Nat × TyI)) (L : Nat) (s : St) (o : Op) : Out :=
  match o with
  | .move x => .val (s.ev x)
  | .assign x => .val (s.ev x)
  | .pick c a b => match s.ev c with | .tt => .val (s.ev a) | .ff => .val (s.ev b) | .b x => .split x (s.ev a) (s.ev b) | _ => .bad
  | .alloc t => match ty? τ t with | some i => .new (.box i.zero) (.op (rt L) 0) | none => .bad
  | .box _ x => bif (s.ev x).flat then .new (.box (s.ev x).cells) (.op (rt L) 0) else .bad
  | .load t x => match ty? τ t with | some i => loadA s i.agg i.size (s.ev x) | none => .bad
  | .nilCheck x => match s.ev x with | .op M j => .val (.op M j) | .oe N st k j => .val (.oe N st k j) | .rp f n st cell k j => .val (.rp f n st cell k j) | _ => .bad
  | .fieldAddr t x f =>
    match ty? τ t with
    | some i => bif i.agg then (match i.flds[f]? with | some (o, z) => bif Nat.blt 0 z then (match addA (s.ev x) o with | .top => .bad | a => .val a) else .bad | none => .bad) else .bad
    | none => .bad
  | .indexAddr t x ix => match ty? τ t with | some i => (match ty? τ i.elem with | some e => bif Nat.blt 0 i.elem then idxA s e.size (s.ev x) (s.ev ix) else .bad | none => .bad) | none => .bad
  | .binOp op t x y _ => binQ τ op t (s.ev x) (s.ev y)
  | .unOp .not _ x => notA (s.ev x)
  | .unOp .neg _ x => negA (s.ev x)
  | .convert src dst x => match ty? τ src, ty? τ dst, s.ev x with | some _, some i, .int _ n => (match i.ik with | some k => .ar k n | none => .bad) | _, _, _ => .bad
  | .extract x n => match s.ev x with | .tup l => bif Nat.blt n l.len then .val (l.nth n) else .bad | _ => .bad
  | .field t x f => match ty? τ t, s.ev x with | some i, .agg l => (match i.flds[f]? with | some (o, z) => bif i.agg && Nat.beq z 1 && Nat.blt o l.len then .val (l.nth o) else .bad | none => .bad) | _, _ => .bad
  | .build t parts => match ty? τ t with | some i => bif i.agg then (match fillA i.flds i.zero (parts.toList.map fun p => (p.1, s.ev p.2)) with | some l => .val (.agg l) | none => .bad) else .bad | none => .bad
  | .buildSlice t len parts =>
    match ty? τ t with
    | some i =>
      bif Nat.blt 0 i.elem then
        (match ty? τ i.elem with
         | some e => bif Nat.blt 0 e.size && Nat.ble (len * e.size) 16777216 then (match partsA s e.size 0 parts.toList with | some l => bif Nat.beq l.len (len * e.size) then .new (.row i.elem (ctOf e.zero e.size len l)) (.os (rt L)) else .bad | none => .bad) else .bad
         | none => .bad)
      else .bad
    | none => .bad
  | .makeSlice t l c =>
    match ty? τ t with
    | some i =>
      bif Nat.blt 0 i.elem then
        (match ty? τ i.elem with
         | some e => bif Nat.blt 0 e.size && Nat.ble e.bytes 256 then (match s.ev l, s.ev c with | .int _ m, .int _ m' => .mk m m' (fun n => .row i.elem (zeroCt e.zero e.size n)) (.os (rt L)) | _, _ => .bad) else .bad
         | none => .bad)
      else .bad
    | none => .bad
  | .makeMap t none => match ty? τ t with | some i => (match i.mp with | some (k, e) => (match ty? τ k, ty? τ e with | some ki, some ei => bif decide (ki.ik = some .i64) && !ei.agg then (match mpOf ei.zero with | some m => .new (.mp t m) (.om (rt L)) | none => .bad) else .bad | _, _ => .bad) | none => .bad) | none => .bad
  | .lookup t x ix ok => match ty? τ t with | some i => (match i.mp with | some (k, e) => (match ty? τ k, ty? τ e with | some ki, some ei => bif decide (ki.ik = some .i64) && !ei.agg then lkA s t (mpOf ei.zero) (s.ev x) (s.ev ix) ok else .bad | _, _ => .bad) | none => .bad) | none => .bad
  | .slice t x lo hi none => match ty? τ t with | some i => (match ty? τ i.elem with | some e => bif Nat.blt 0 i.elem then sliceA e.size (s.ev x) (lo.map s.ev) (hi.map s.ev) else .bad | none => .bad) | none => .bad
  | .slice t x lo (some hi) (some mx) => match ty? τ t with | some i => (match ty? τ i.elem with | some e => bif Nat.blt 0 i.elem then slice0A s (s.ev x) (lo.map s.ev) (s.ev hi) (s.ev mx) else .bad | none => .bad) | none => .bad
  | .makeFunc (.func f) first caps => bif first.isEmpty then .val (.fn f (s.evs caps.toList)) else .bad
  | .call c =>
    match c.callee with
    | .builtin .len => match c.args.toList, c.argTypes.toList with | [x], [t] => (match ty? τ t with | some i => lenA s (bif Nat.blt 0 i.elem then 0 else bif i.mp.isSome then 1 else 3) (s.ev x) | none => .bad) | _, _ => .bad
    | .builtin .min => match c.args.toList with | [x, y] => (match s.ev x, s.ev y with | .int .i64 a, .int .i64 b => .val (.i (min a b)) | _, _ => .bad) | _ => .bad
    | .builtin .max => match c.args.toList with | [x, y] => (match s.ev x, s.ev y with | .int .i64 a, .int .i64 b => .val (.i (max a b)) | _, _ => .bad) | _ => .bad
    | .value f => match s.ev f with | .fn g caps => .call g ((s.evs c.args.toList).app caps) | _ => .bad
    | _ => .bad
  | _ => .bad

/-- What the outcome says: the value, and the block that was made. -/
inductive Yields : Out → AV → Option Blk → Prop where
  | val {a} : Yields (.val a) a none
  | cond {p a} : p → Yields (.cond p a) a none
  | ari {k n} : inK k n → Yields (.ar k n) (.int k n) none
  | arw {k n} : Yields (.ar k n) (.int k (k.wrap n)) none
  | idx {m : Int} {n k : Nat} {f} : m = (k : Int) → k < n → Yields (.idx m n f) (f k) none
  | splitT {x a b} : x = true → Yields (.split x a b) a none
  | splitF {x a b} : x = false → Yields (.split x a b) b none
  | new {x a} : Yields (.new x a) a (some x)
  | mk {m c : Int} {f a} {n k : Nat} : m = (n : Int) → c = (k : Int) → n ≤ k → k ≤ 274877906944 → Yields (.mk m c f a) a (some (f n))
  | slc {lo hi : Option Int} {n l h : Nat} {f} : (lo.getD 0 = (l : Int)) → (hi.getD n = (h : Int)) → l ≤ h → h ≤ n → Yields (.slc lo hi n f) (f l h) none
end Go.Proofs.YtaopjdeigpiejaaDoor
namespace Go.Proofs.YtaopjdeigpiejaaDoor
open Go.RowKit
set_option linter.unusedVariables false

section
variable {P : Program} {τ : List (Nat × TyI)} {E : Ent0} {w : World} {s : St} {act : Act} {γ : Nm → Value}

theorem cv_sound {own : Bool → Nat → Prop} (v : Value) : Reps w own γ (cv v) .o [v] ∧ ∀ M, ¬ (cv v).has M := by
  unfold cv
  split <;> exact ⟨rfl, fun _ h => h⟩
theorem ev_sound (h : Sim E s act w γ) (x : Operand) : Reps w (E.ow (s.own γ)) γ (s.ev x) .o [act.eval x] ∧ s.live (s.ev x) := by
  cases x with
  | tmp t => exact ⟨h.slots t, h.wf.slot t⟩
  | const v => exact ⟨(cv_sound v).1, fun M hM => absurd hM ((cv_sound (w := w) (γ := γ) (own := E.ow (s.own γ)) v).2 M)⟩
  | global g => exact ⟨rfl, fun M hM => hM.elim⟩
  | func f => exact ⟨⟨[], rfl, rfl⟩, fun M hM => hM.elim⟩
theorem evs_sound (h : Sim E s act w γ) (l : List Operand) : Reps w (E.ow (s.own γ)) γ (s.evs l) .o (l.map act.eval) ∧ s.live (s.evs l) := by
  induction l with
  | nil => exact ⟨rfl, fun M hM => hM.elim⟩
  | cons x l ih => exact ⟨⟨_, _, rfl, (ev_sound h x).1, ih.1⟩, fun M hM => hM.elim ((ev_sound h x).2 M) (ih.2 M)⟩

theorem live_one (h : Sim E s act w γ) {a : AV} (hl : s.live a) : ∀ L, a.has L → (γ L).oneCell' = true := by
  intro L hL
  obtain ⟨x, hx⟩ := hl L hL
  have hb := h.blks L x hx
  cases x with
  | box l => obtain ⟨bk, us, ty, e, _⟩ := hb; rw [e]; rfl
  | row e c => rcases hb with ⟨_, _, e⟩ | ⟨_, _, _, _, e, _⟩ <;> (rw [e]; rfl)
  | mp t m => obtain ⟨_, _, _, e, _⟩ := hb; rw [e]; rfl

theorem has_nth {L : Nm} : ∀ {l : AV} {j : Nat}, (l.nth j).has L → l.has L := by
  intro l
  induction l with
  | cons a l iha ihl =>
    intro j h
    cases j with
    | zero => exact .inl h
    | succ j => exact .inr (ihl h)
  | nil => intro j h; exact h.elim
  | _ => intro j h; cases j with | zero => exact h | succ j => exact h.elim
theorem has_drop {L : Nm} : ∀ {l : AV} {j : Nat}, (l.drop j).has L → l.has L := by
  intro l
  induction l with
  | cons a l iha ihl =>
    intro j h
    cases j with
    | zero => exact h
    | succ j => exact .inr (ihl h)
  | _ => intro j h; cases j with | zero => exact h | succ j => exact h.elim
theorem has_take {L : Nm} : ∀ {l : AV} {j : Nat}, (l.take j).has L → l.has L := by
  intro l
  induction l with
  | cons a l iha ihl =>
    intro j h
    cases j with
    | zero => exact h.elim
    | succ j => exact h.elim .inl (fun h => .inr (ihl h))
  | _ => intro j h; cases j with | zero => exact h.elim | succ j => exact h
theorem has_app {L : Nm} : ∀ {l m : AV}, (l.app m).has L → l.has L ∨ m.has L := by
  intro l
  induction l with
  | nil => intro m h; exact .inr h
  | cons a l iha ihl =>
    intro m h
    rcases h with h | h
    · exact .inl (.inl h)
    · exact (ihl h).elim (fun h => .inl (.inr h)) .inr
  | _ => intro m h; exact h
theorem has_splice {L : Nm} {l m : AV} {j : Nat} (h : (l.splice j m).has L) : l.has L ∨ m.has L := by
  rcases has_app h with h | h
  · exact .inl (has_take h)
  · rcases has_app h with h | h
    · exact .inr h
    · exact .inl (has_drop h)
theorem has_cells {L : Nm} {a : AV} (h : a.cells.has L) : a.has L := by
  cases a <;> exact h
theorem has_rowA {L : Nm} {cell : Nat → AV} : ∀ {n j : Nat}, (rowA cell j n).has L → ∃ k, k < j + n ∧ (cell k).has L
  | 0, _, h => h.elim
  | n + 1, j, h => h.elim (fun h => ⟨j, by omega, h⟩) (fun h => by obtain ⟨k, h1, h2⟩ := has_rowA (n := n) h; exact ⟨k, by omega, h2⟩)
theorem has_addA {L : Nm} {o : Nat} {a : AV} (h : (addA a o).has L) : a.has L := by
  cases a <;> first | exact h | exact h.elim
theorem has_evs (h : Sim E s act w γ) (l : List Operand) : s.live (s.evs l) := (evs_sound h l).2

/-- Loading a variable. -/
theorem run_loadAt {t : Nat} {i : TyI} (hi : tyChk P t i = true) {bk o : Nat} {us : List Value} (hl : us.length = (if i.agg then i.size else 1)) (hc : ∀ j u, us[j]? = some u → w.cell? ⟨bk, o + j, none⟩ = some u) :
    (Instr.loadAt t (.pointer (some ⟨bk, o, none⟩))).run P w = .ok (if i.agg then .agg us.toArray else us.getD 0 undef) w := by
  obtain ⟨inf, z, h1, h2, h3, h4, h5⟩ := tyChk_info hi
  have hcell : ∀ j u, us[j]? = some u → w.cell? ((⟨bk, o, none⟩ : Addr).add j) = some u := fun j u hu => by
    have : (⟨bk, o, none⟩ : Addr).add j = ⟨bk, o + j, none⟩ := by unfold Addr.add; split <;> simp_all
    rw [this]; exact hc j u hu
  cases ha : i.agg with
  | true =>
    rw [ha] at hl
    have hs : us.length = inf.size := by rw [h2]; simpa using hl
    have hr := run_loadCells_list (P := P) w ⟨bk, o, none⟩ us hcell
    simp [Instr.loadAt, Instr.sureAddr, loadVar, tyChk_agg hi, ha, sizeOf, typeInfo, h1, ← hs, hr]
  | false =>
    rw [ha] at hl
    match us, hl with
    | [u], _ =>
      have := hc 0 u rfl
      simp [Instr.loadAt, Instr.sureAddr, loadVar, tyChk_agg hi, ha]
      rw [show w.cell? ⟨bk, o, none⟩ = some u from this]

theorem rowA_reps {own : Bool → Nat → Prop} {cell : Nat → AV} {f : Nat → Value} {ro : Md} : ∀ (n j : Nat), (∀ k, j ≤ k → k < j + n → Reps w own γ (cell k) ro [f k]) → Reps w own γ (rowA cell j n) ro ((List.range' j n).map f)
  | 0, j, h => rfl
  | n + 1, j, h => ⟨f j, (List.range' (j + 1) n).map f, by simp [List.range'_succ], h j (Nat.le_refl _) (by omega), rowA_reps n (j + 1) (fun k h1 h2 => h k (by omega) (by omega))⟩

/-- A table's row, whole or one cell of it. -/
theorem load_table {t : Nat} {i : TyI} (hi : tyChk P t i = true) {bk o j st : Nat} {cell : Nat → AV} {own : Bool → Nat → Prop} {ro : Md} (hj : (if i.agg then j + i.size ≤ st else j < st))
    (hc : ∀ j, j < st → ∃ u, w.cell? ⟨bk, o + j, none⟩ = some u ∧ Reps w own γ (cell j) ro [u]) :
    ∃ v, (Instr.loadAt t (.pointer (some ⟨bk, o + j, none⟩))).run P w = .ok v w ∧ Reps w own γ (if i.agg then .agg (rowA cell j i.size) else cell j) ro [v] := by
  have hc' : ∀ k, ∃ u, k < st → w.cell? ⟨bk, o + k, none⟩ = some u ∧ Reps w own γ (cell k) ro [u] := fun k => by
    by_cases h : k < st
    · obtain ⟨u, hu⟩ := hc k h; exact ⟨u, fun _ => hu⟩
    · exact ⟨undef, fun h' => absurd h' h⟩
  let f : Nat → Value := fun k => Classical.choose (hc' k)
  have hf : ∀ k, k < st → w.cell? ⟨bk, o + k, none⟩ = some (f k) ∧ Reps w own γ (cell k) ro [f k] := fun k => Classical.choose_spec (hc' k)
  cases ha : i.agg with
  | true =>
    rw [ha] at hj
    have hj' : j + i.size ≤ st := by simpa using hj
    refine ⟨_, run_loadAt hi (us := (List.range' j i.size).map f) (by simp [ha]) (fun k u hu => ?_), ?_⟩
    · simp only [List.getElem?_map] at hu
      by_cases hk : k < i.size
      · simp [hk] at hu
        rw [← hu, Nat.add_assoc]
        exact (hf (j + k) (by omega)).1
      · rw [List.getElem?_eq_none (by simpa using hk)] at hu; cases hu
    · simp only [ha, if_true]
      exact ⟨_, rfl, rowA_reps i.size j (fun k h1 h2 => (hf k (by omega)).2)⟩
  | false =>
    rw [ha] at hj
    have hj' : j < st := by simpa using hj
    refine ⟨_, run_loadAt hi (us := [f j]) (by simp [ha]) (fun k u hu => ?_), ?_⟩
    · cases k with
      | zero => cases hu; exact (hf j hj').1
      | succ k => cases hu
    · simpa [ha] using (hf j hj').2

theorem ldc_rep {own : Bool → Nat → Prop} {N : Nm} {cell : Nat → Nat → AV} {k j : Nat} {u : Value} (h : CellR w own γ N k j (cell k j) u) : Reps w own γ (ldc N cell k j) .o [u] := by
  unfold ldc
  split
  · rename_i e; rw [e] at h; exact ⟨rfl, by rw [h.own rfl]⟩
  · rename_i e; rw [e] at h; exact ⟨rfl, by rw [h.own rfl]⟩
  · rename_i n1 n2
    refine h.rep ?_
    generalize cell k j = a at n1 n2
    cases a <;> first | rfl | exact absurd rfl (n1 _ _ _) | exact absurd rfl (n2 _ _ _ _)
theorem ldc_lv (h : Sim E s act w γ) {N : Nm} {e : TypeId} {c : Ct} {k j : Nat} (hN : s.at N (.row e c)) (hk : k < c.len) (hj : j < c.st) {M : Nm} (hM : (ldc N c.cell k j).has M) : s.lv M := by
  unfold ldc at hM
  split at hM
  · rename_i e1
    have : N.kid k j = M := hM
    subst this
    exact ⟨_, at_kid hN hk hj (by rw [e1]; rfl)⟩
  · rename_i e1
    have : N.kid k j = M := hM
    subst this
    exact ⟨_, at_kid hN hk hj (by rw [e1]; rfl)⟩
  · exact h.wf.blk N _ M hN ⟨k, j, hk, hj, hM⟩

theorem load_sound (h : Sim E s act w γ) {t : Nat} {i : TyI} (hi : tyChk P t i = true) {x : AV} {v : Value} (hx : Reps w (E.ow (s.own γ)) γ x .o [v]) (hlx : s.live x) {a : AV} {nb : Option Blk}
    (hy : Yields (loadA s i.agg i.size x) a nb) : nb = none ∧ ∃ u, (Instr.loadAt t v).run P w = .ok u w ∧ Reps w (E.ow (s.own γ)) γ a .o [u] ∧ s.live a := by
  cases x with
  | op L j =>
    obtain ⟨_, e, _⟩ := hx
    cases e
    simp only [loadA] at hy
    split at hy
    · rename_i l hL
      have hL' := St.lv_at (hlx L rfl) hL
      obtain ⟨bk, us, ty, e, h1, _, h2⟩ := h.blks _ _ hL'
      have hcell : ∀ k, w.cell? ⟨bk, 0 + k, none⟩ = us[k]? := fun k => by rw [cell_heap h1]; simp
      have hlv : s.live l := fun M hM => h.wf.blk _ _ M hL' hM
      have hp : ptrAt (γ L) j = .pointer (some ⟨bk, 0 + j, none⟩) := by rw [e]; rfl
      cases ha : i.agg with
      | true =>
        rw [ha] at hy
        simp only [cond_true] at hy
        cases hb : Nat.ble (j + i.size) l.len with
        | false => rw [hb] at hy; cases hy
        | true =>
          rw [hb] at hy
          have hb' := Nat.le_of_ble_eq_true hb
          cases hy
          have hr := (h2.drop j).take i.size
          refine ⟨rfl, .agg ((us.drop j).take i.size).toArray, ?_, ?_, fun M hM => hlv M (has_drop (has_take hM))⟩
          · rw [hp]
            have := run_loadAt (w := w) (P := P) hi (bk := bk) (o := 0 + j) (us := (us.drop j).take i.size) ?_ ?_
            · simpa [ha] using this
            · simp [ha, h2.len]; omega
            · intro k u hu
              rw [Nat.add_assoc, hcell]
              rw [List.getElem?_take] at hu
              split at hu
              · rw [List.getElem?_drop] at hu; exact hu
              · cases hu
          · exact ⟨_, rfl, hr⟩
      | false =>
        rw [ha] at hy
        simp only [cond_false] at hy
        cases hb : Nat.blt j l.len with
        | false => rw [hb] at hy; cases hy
        | true =>
          rw [hb] at hy
          have hb' : j < l.len := by simpa [Nat.blt_eq] using hb
          cases hy
          obtain ⟨u, h3, h4⟩ := h2.nth hb'
          refine ⟨rfl, u, ?_, h4, fun M hM => hlv M (has_nth hM)⟩
          rw [hp]
          have := run_loadAt (w := w) (P := P) hi (bk := bk) (o := 0 + j) (us := [u]) (by simp [ha]) (fun k v hv => by
            cases k with
            | zero => cases hv; rw [Nat.add_zero, hcell]; exact h3
            | succ k => cases hv)
          simpa [ha] using this
    · cases hy
  | oe L st k j =>
    obtain ⟨_, e, _⟩ := hx
    cases e
    simp only [loadA] at hy
    split at hy
    · rename_i e c hL0
      have hL := St.lv_at (hlx L rfl) hL0
      cases hst : Nat.beq c.st st with
      | false => rw [hst] at hy; cases hy
      | true =>
        rw [hst] at hy
        obtain rfl := Nat.eq_of_beq_eq_true hst
        have key : k < c.len → ∃ bk o, ptrAt (γ L) (k * c.st + j) = .pointer (some ⟨bk, o + k * c.st + j, none⟩) ∧ ∀ j, j < c.st → ∃ u, w.cell? ⟨bk, o + k * c.st + j, none⟩ = some u ∧ Reps w (E.ow (s.own γ)) γ (ldc L c.cell k j) .o [u] := by
          intro hk
          rcases h.blks L _ hL with ⟨h0, _⟩ | ⟨bk, o, cap, us, e1, hp, h1, h2, h3, h4⟩
          · omega
          · refine ⟨bk, o, by rw [e1, Nat.add_assoc]; rfl, fun j hj => ?_⟩
            obtain ⟨u, h5, _, h6⟩ := h4 k j hk hj
            exact ⟨u, by rw [cell_heap h2, Nat.add_assoc]; exact h5, ldc_rep h6⟩
        have hlv : k < c.len → ∀ M, ∀ j, j < c.st → (ldc L c.cell k j).has M → s.lv M := fun hk M j hj hM => ldc_lv h hL hk hj hM
        cases ha : i.agg with
        | true =>
          rw [ha] at hy
          simp only [cond_true] at hy
          cases hb : Nat.ble (j + i.size) c.st with
          | false => rw [hb] at hy; cases hy
          | true =>
            rw [hb] at hy
            have hb' := Nat.le_of_ble_eq_true hb
            cases hy
            rename_i hk
            obtain ⟨bk, o, e1, h1⟩ := key hk
            obtain ⟨v, h2, h3⟩ := load_table (P := P) hi (j := j) (st := c.st) (by simpa [ha] using hb') h1
            refine ⟨rfl, v, by rw [e1]; exact h2, by simpa [ha] using h3, fun M hM => ?_⟩
            obtain ⟨j', hj0, hj'⟩ := has_rowA (show (rowA (ldc L c.cell k) j i.size).has M from hM)
            exact hlv hk M j' (by omega) hj'
        | false =>
          rw [ha] at hy
          simp only [cond_false, cond_true] at hy
          cases hb : Nat.blt j c.st with
          | false => rw [hb] at hy; cases hy
          | true =>
            rw [hb] at hy
            have hb' : j < c.st := by simpa [Nat.blt_eq] using hb
            cases hy
            rename_i hk
            obtain ⟨bk, o, e1, h1⟩ := key hk
            obtain ⟨v, h2, h3⟩ := load_table (P := P) hi (j := j) (st := c.st) (by simpa [ha] using hb') h1
            exact ⟨rfl, v, by rw [e1]; exact h2, by simpa [ha] using h3, fun M hM => hlv hk M j hb' hM⟩
    · cases hy
  | rp f n st cell k j =>
    obtain ⟨bk, o, e, hk, h1, h2, h3⟩ := hx
    cases e
    have h3' : ∀ j, j < st → ∃ u, w.cell? ⟨bk, o + k * st + j, none⟩ = some u ∧ Reps w (E.ow (s.own γ)) γ (cell k j) (.r f) [u] := fun j hj => by
      rw [Nat.add_assoc]; obtain ⟨u, h5, _, h6⟩ := h3 k j hk hj; exact ⟨u, h5, h6⟩
    simp only [loadA] at hy
    cases ha : i.agg with
    | true =>
      rw [ha] at hy
      simp only [cond_true] at hy
      cases hb : Nat.ble (j + i.size) st with
      | false => rw [hb] at hy; cases hy
      | true =>
        rw [hb] at hy
        have hb' := Nat.le_of_ble_eq_true hb
        cases hy
        obtain ⟨v, h4, h5⟩ := load_table (P := P) hi (j := j) (st := st) (by simpa [ha] using hb') h3'
        rw [Nat.add_assoc] at h4
        have h5' : Reps w (E.ow (s.own γ)) γ (.agg (rowA (cell k) j i.size)) (.r f) [v] := by simpa [ha] using h5
        exact ⟨rfl, v, h4, h5'.ro (ow_mono _ _), fun M hM => absurd hM h5'.has_ro⟩
    | false =>
      rw [ha] at hy
      simp only [cond_false] at hy
      cases hb : Nat.blt j st with
      | false => rw [hb] at hy; cases hy
      | true =>
        rw [hb] at hy
        have hb' : j < st := by simpa [Nat.blt_eq] using hb
        cases hy
        obtain ⟨v, h4, h5⟩ := load_table (P := P) hi (j := j) (st := st) (by simpa [ha] using hb') h3'
        rw [Nat.add_assoc] at h4
        have h5' : Reps w (E.ow (s.own γ)) γ (cell k j) (.r f) [v] := by simpa [ha] using h5
        exact ⟨rfl, v, h4, h5'.ro (ow_mono _ _), fun M hM => absurd hM h5'.has_ro⟩
  | _ => cases hy
end
end Go.Proofs.YtaopjdeigpiejaaDoor
namespace Go.Proofs.YtaopjdeigpiejaaDoor
open Go.RowKit
set_option linter.unusedVariables false

theorem fold_set (off : Nat) : ∀ (vs : List Value) (k : Nat) (cells : Array Value), off + k + vs.length ≤ cells.size →
    (vs.zipIdx k).foldl (fun cs (x : Value × Nat) => cs.setIfInBounds (off + x.2) x.1) cells = (cells.toList.take (off + k) ++ vs ++ cells.toList.drop (off + k + vs.length)).toArray
  | [], k, cells, h => by simp
  | v :: vs, k, cells, h => by
    simp only [List.zipIdx_cons, List.foldl_cons, List.length_cons] at h ⊢
    rw [fold_set off vs (k + 1) _ (by simp; omega)]
    congr 1
    apply List.ext_getElem?
    intro m
    have hk : off + k < cells.size := by omega
    by_cases h1 : m < off + k
    · rw [List.getElem?_append_left (by simp; omega), List.getElem?_append_left (by simp; omega), List.getElem?_append_left (by simp; omega), List.getElem?_append_left (by simp; omega)]
      simp [h1, show m < off + (k + 1) by omega]
      rw [List.getElem?_set_ne (by omega)]
      simp
    · by_cases h2 : m = off + k
      · subst h2
        rw [List.getElem?_append_left (by simp; omega), List.getElem?_append_left (by simp; omega), List.getElem?_append_left (by simp; omega), List.getElem?_append_right (by simp; omega)]
        simp [show off + k < off + (k + 1) by omega, hk, Nat.min_eq_left (Nat.le_of_lt hk)]
      · by_cases h3 : m < off + (k + 1) + vs.length
        · rw [List.getElem?_append_left (by simp; omega), List.getElem?_append_right (by simp; omega), List.getElem?_append_left (by simp; omega), List.getElem?_append_right (by simp; omega)]
          simp [Nat.min_eq_left (Nat.le_of_lt hk), show min (off + (k + 1)) cells.size = off + (k + 1) by omega]
          rw [show m - (off + k) = (m - (off + (k + 1))) + 1 by omega, List.getElem?_cons_succ]
        · rw [List.getElem?_append_right (by simp; omega), List.getElem?_append_right (by simp; omega)]
          simp [List.getElem?_drop, Nat.min_eq_left (Nat.le_of_lt hk), show min (off + (k + 1)) cells.size = off + (k + 1) by omega]
          rw [List.getElem?_set_ne (by omega), show off + (k + 1) + vs.length + (m - (off + (k + 1) + vs.length)) = off + k + (vs.length + 1) + (m - (off + k + (vs.length + 1))) by omega]
          simp

section
variable {P : Program} {τ : List (Nat × TyI)} {E : Ent0} {w : World} {s : St} {act : Act} {γ : Nm → Value}

theorem fill_step {place : Nat → Option (Nat × Nat)} {cells : Array Value} {i off size : Nat} {v : Value} {rest : List (Nat × Value)} (hp : place i = some (off, size)) (hs : v.cells.size = size) (ho : off + size ≤ cells.size) :
    Instr.fill place cells ((i, v) :: rest) = Instr.fill place (cells.toList.take off ++ v.cells.toList ++ cells.toList.drop (off + size)).toArray rest := by
  subst hs
  have h1 : (v.cells.size ≠ v.cells.size || off + v.cells.size > cells.size) = false := by simp; omega
  simp only [Instr.fill, hp]
  rw [if_neg (by simp; omega)]
  congr 1
  have := fold_set off v.cells.toList 0 cells (by simpa using ho)
  simp only [Nat.add_zero, Array.length_toList] at this
  rw [← this, ← Array.foldl_toList]
  simp [Array.toList_zipIdx]

theorem fillA_sound (h : Sim E s act w γ) {flds : List (Nat × Nat)} {place : Nat → Option (Nat × Nat)} (hpl : ∀ i p, flds[i]? = some p → place i = some p) : ∀ (parts : List (Nat × Operand)) (l l' : AV) (us : List Value),
    Reps w (E.ow (s.own γ)) γ l .o us → s.live l → fillA flds l (parts.map fun p => (p.1, s.ev p.2)) = some l' →
    ∃ us', Instr.fill place us.toArray (parts.map fun p => (p.1, act.eval p.2)) = some (List.toArray us') ∧ Reps w (E.ow (s.own γ)) γ l' .o us' ∧ s.live l'
  | [], l, l', us, h1, h2, h3 => by
    simp only [List.map_nil, fillA] at h3
    cases h3
    exact ⟨us, by simp [Instr.fill], h1, h2⟩
  | (i, x) :: parts, l, l', us, h1, h2, h3 => by
    simp only [List.map_cons, fillA] at h3
    cases hf : flds[i]? with
    | none => rw [hf] at h3; cases h3
    | some p =>
      obtain ⟨o, z⟩ := p
      rw [hf] at h3
      simp only at h3
      cases hb : ((s.ev x).flat && Nat.beq (s.ev x).cells.len z && Nat.ble (o + z) l.len) with
      | false => rw [hb] at h3; cases h3
      | true =>
        rw [hb] at h3
        simp only [cond_true] at h3
        simp only [Bool.and_eq_true] at hb
        obtain ⟨⟨hfl, hz⟩, hle⟩ := hb
        have hz' := Nat.eq_of_beq_eq_true hz
        have hle' := Nat.le_of_ble_eq_true hle
        obtain ⟨hx, hlx⟩ := ev_sound h x
        obtain ⟨hc, _⟩ := hx.cells hfl (live_one h hlx)
        have hsz : (act.eval x).cells.size = z := by rw [← hz', ← hc.len]; simp
        have hus : us.length = l.len := h1.len
        have hsp := Reps.splice o h1 hc
        obtain ⟨us', h4, h5, h6⟩ := fillA_sound h hpl parts _ l' _ hsp (fun M hM => (has_splice hM).elim (h2 M) (fun hM => hlx M (has_cells hM))) h3
        refine ⟨us', ?_, h5, h6⟩
        rw [List.map_cons, fill_step (hpl i _ hf) hsz (by simp; omega), ← h4]
        simp [hsz]

theorem fldsB_mapM : ∀ {fs : List Field} {l : List (Nat × Nat)}, fldsB P fs l = true → fs.mapM (fun f => (P.info? f.type).map fun i => (f.offset, i.size)) = some l := by
  intro fs
  induction fs with
  | nil => intro l h; cases l with | nil => rfl | cons p l => cases h
  | cons f fs ih =>
    intro l h
    cases l with
    | nil => cases h
    | cons p l =>
      obtain ⟨o, z⟩ := p
      simp only [fldsB, Bool.and_eq_true, decide_eq_true_eq] at h
      cases hi : P.info? f.type with
      | none => rw [hi] at h; cases h.1.2
      | some inf =>
        rw [hi] at h
        have hz : inf.size = z := by simpa using h.1.2
        simp [List.mapM_cons, hi, ih h.2, h.1.1, hz]

theorem build_sound (h : Sim E s act w γ) {t : Nat} {i : TyI} (hi : tyChk P t i = true) (ha : i.agg = true) {parts : Array (Nat × Operand)} {l : AV}
    (hf : fillA i.flds i.zero (parts.toList.map fun p => (p.1, s.ev p.2)) = some l) :
    ∃ v, (Instr.build t (parts.map fun (i, x) => (i, act.eval x))).run P w = .ok v w ∧ Reps w (E.ow (s.own γ)) γ (.agg l) .o [v] ∧ s.live l := by
  obtain ⟨inf, z, h1, h2, h3, h4, h5⟩ := tyChk_info hi
  obtain ⟨fs, h6, h7⟩ := tyChk_struct hi ha
  obtain ⟨hz1, hz2, hz3⟩ := zeroB_spec (w := w) (own := E.ow (s.own γ)) (γ := γ) (ro := .o) h5
  obtain ⟨us, h8, h9, h10⟩ := fillA_sound h (place := fun i' => i.flds.toArray[i']?) (fun i' p hp => by simpa using hp) parts.toList _ _ _ hz1 (fun M hM => absurd hM (hz3 M)) hf
  refine ⟨.agg us.toArray, run_build w t _ _ ?_, ⟨us, rfl, h9⟩, h10⟩
  simp only [Program.built, h1, h6, h4, fldsB_mapM h7]
  rw [← h8]
  simp

theorem nth_app_l : ∀ {l m : AV} {j : Nat}, j < l.len → (l.app m).nth j = l.nth j := by
  intro l
  induction l with
  | nil => intro m j h; cases h
  | cons a l iha ihl => intro m j h; cases j with | zero => rfl | succ j => exact ihl (by simpa [AV.len] using h)
  | _ => intro m j h; simp only [AV.len] at h; obtain rfl : j = 0 := by omega
         rfl
theorem len_app : ∀ {l m : AV}, (l.app m).len = l.len + m.len := by
  intro l
  induction l with
  | nil => intro m; simp [AV.app, AV.len]
  | cons a l iha ihl => intro m; simp only [AV.app, AV.len, ihl]; omega
  | _ => intro m; simp only [AV.app, AV.len]; omega

theorem partsA_sound (h : Sim E s act w γ) {z : Nat} : ∀ (parts : List (Nat × Operand)) (k : Nat) (l : AV), partsA s z k parts = some l → ∀ (cells : List Value), cells.length = (k + parts.length) * z →
    ∃ us, Instr.fill (fun i => some (i * z, z)) cells.toArray (parts.map fun p => (p.1, act.eval p.2)) = some (cells.take (k * z) ++ us).toArray ∧ Reps w (E.ow (s.own γ)) γ l .o us ∧ s.live l ∧ (∀ u ∈ us, u.oneCell' = true) ∧ us.length = parts.length * z
  | [], k, l, hp, cells, hl => by
    simp only [partsA] at hp
    cases hp
    refine ⟨[], by simp [Instr.fill]; rw [List.take_of_length_le (by simpa using Nat.le_of_eq hl)], rfl, fun M hM => hM.elim, fun u hu => (by cases hu), by simp⟩
  | (i, x) :: parts, k, l, hp, cells, hl => by
    simp only [partsA] at hp
    cases hb : (Nat.beq i k && (s.ev x).flat && Nat.beq (s.ev x).cells.len z) with
    | false => rw [hb] at hp; cases hp
    | true =>
      rw [hb] at hp
      simp only [cond_true] at hp
      simp only [Bool.and_eq_true] at hb
      obtain ⟨⟨hik, hfl⟩, hz⟩ := hb
      obtain rfl := Nat.eq_of_beq_eq_true hik
      have hz' := Nat.eq_of_beq_eq_true hz
      cases hr : partsA s z (i + 1) parts with
      | none => rw [hr] at hp; cases hp
      | some m =>
        rw [hr] at hp
        cases hp
        obtain ⟨hx, hlx⟩ := ev_sound h x
        obtain ⟨hc, hc1⟩ := hx.cells hfl (live_one h hlx)
        have hsz : (act.eval x).cells.size = z := by rw [← hz', ← hc.len]; simp
        have hsz' : (act.eval x).cells.toList.length = z := by simpa using hsz
        simp only [List.length_cons] at hl
        have e1 : (i + (parts.length + 1)) * z = i * z + z + parts.length * z := by rw [Nat.add_mul, Nat.succ_mul]; omega
        have e2 : (i + 1) * z = i * z + z := Nat.succ_mul i z
        have e3 : (i + 1 + parts.length) * z = i * z + z + parts.length * z := by rw [Nat.add_mul, e2]
        obtain ⟨us, h4, h5, h6, h7, h8⟩ := partsA_sound h parts (i + 1) m hr (cells.take (i * z) ++ (act.eval x).cells.toList ++ cells.drop (i * z + z)) (by
          simp only [List.length_append, List.length_take, List.length_drop, hsz', e3]; rw [hl, e1]; omega)
        refine ⟨(act.eval x).cells.toList ++ us, ?_, hc.app h5, fun M hM => (has_app hM).elim (fun hM => hlx M (has_cells hM)) (h6 M), fun u hu => (List.mem_append.1 hu).elim (hc1 u) (h7 u), by
          simp only [List.length_append, hsz', h8, List.length_cons, Nat.succ_mul]; omega⟩
        rw [List.map_cons, fill_step rfl hsz (by simp; rw [hl, e1]; omega)]
        have ht : (cells.take (i * z) ++ (act.eval x).cells.toList ++ cells.drop (i * z + z)).take ((i + 1) * z) = cells.take (i * z) ++ (act.eval x).cells.toList := by
          rw [e2, List.take_append_of_le_length (by simp only [List.length_append, List.length_take, hsz']; omega), List.take_of_length_le (by simp only [List.length_append, List.length_take, hsz']; omega)]
        rw [ht] at h4
        rw [← List.append_assoc]
        exact h4

theorem intsOf_spec {k : IntKind} : ∀ {l : AV} {xs : List Int}, intsOf k l = some xs → l.len = xs.length ∧ ∀ i, i < xs.length → l.nth i = .int k (xs.getD i 0) := by
  intro l
  induction l with
  | nil => intro xs h; cases h; exact ⟨rfl, fun i hi => by cases hi⟩
  | cons a l iha ihl =>
    intro xs h
    cases a with
    | int q n =>
      simp only [intsOf] at h
      cases hd : decide (q = k) with
      | false => rw [hd] at h; cases h
      | true =>
        rw [hd] at h
        have hq := of_decide_eq_true hd
        cases hr : intsOf k l with
        | none => rw [hr] at h; cases h
        | some ys =>
          rw [hr] at h
          cases h
          obtain ⟨h1, h2⟩ := ihl hr
          refine ⟨by simp [AV.len, h1], fun i hi => ?_⟩
          cases i with
          | zero => subst hq; rfl
          | succ i => exact (h2 i (by simpa using hi)).trans (by simp)
    | _ => cases h
  | _ => intro xs h; cases h

/-- What a row is to hold is held. -/
theorem ctOf_spec (zero : AV) {z n : Nat} {l : AV} (hl : l.len = n * z) (hz : 0 < z) (h1 : zero.len = z) : (ctOf zero z n l).len = n ∧ (ctOf zero z n l).st = z ∧ ∀ k j, k < n → j < z → (ctOf zero z n l).cell k j = l.nth (k * z + j) := by
  unfold ctOf
  split
  · simp only [AV.len] at h1
    subst h1
    split
    · rename_i k xs hx
      obtain ⟨h2, h3⟩ := intsOf_spec hx
      have hn : xs.length = n := by omega
      refine ⟨hn, rfl, fun i j hi hj => ?_⟩
      obtain rfl : j = 0 := by omega
      rw [Nat.mul_one, Nat.add_zero, h3 i (by omega)]
      rfl
    · exact ⟨rfl, rfl, fun _ _ _ _ => rfl⟩
  · exact ⟨rfl, rfl, fun _ _ _ _ => rfl⟩
theorem zeroCt_spec (zero : AV) {z n : Nat} (hz : 0 < z) (h1 : zero.len = z) : (zeroCt zero z n).len = n ∧ (zeroCt zero z n).st = z ∧ ∀ k j, k < n → j < z → (zeroCt zero z n).cell k j = zero.nth j ∨ ((zeroCt zero z n).cell k j = .b false ∧ zero.nth j = .ff) := by
  unfold zeroCt
  split
  · simp only [AV.len] at h1
    subst h1
    refine ⟨by simp [Ct.len], rfl, fun k j hk hj => .inl ?_⟩
    obtain rfl : j = 0 := by omega
    simp [Ct.cell, ci, AV.nth, hk]
  · simp only [AV.len] at h1
    subst h1
    refine ⟨by simp [Ct.len], rfl, fun k j hk hj => .inr ?_⟩
    obtain rfl : j = 0 := by omega
    simp [Ct.cell, cb, AV.nth, hk]
  · exact ⟨rfl, rfl, fun _ _ _ _ => .inl rfl⟩
theorem zero_len {a : AV} {vs : List Value} (h : zeroB a vs = true) : a.len = vs.length := ((zeroB_spec (w := default) (own := fun _ _ => False) (γ := fun _ => undef) (ro := .r false) h).1.len).symm
end
end Go.Proofs.YtaopjdeigpiejaaDoor
namespace Go.Proofs.YtaopjdeigpiejaaDoor
open Go.RowKit
set_option linter.unusedVariables false

section
variable {P : Program} {τ : List (Nat × TyI)} {E : Ent0} {w : World} {s : St} {act : Act} {γ : Nm → Value}

def St.addB (s : St) (L : Nat) : Option Blk → St
  | none => s
  | some x => s.setB L (some x)

theorem lv_addB {L : Nat} {x : Blk} : (s.addB L (some x)).lv (rt L) := ⟨x, at_root.2 (by simp [St.addB, St.rblk_setB])⟩

def QRes (P : Program) (E : Ent0) (s : St) (act : Act) (w : World) (r : Result Value) (L : Nat) (a : AV) (nb : Option Blk) : Prop :=
  ∃ v w' γ', r = .ok v w' ∧ Sim E (s.addB L nb) act w' γ' ∧ Reps w' (E.ow ((s.addB L nb).own γ')) γ' a .o [v] ∧ (s.addB L nb).live a

theorem QRes.same (h : Sim E s act w γ) {L : Nat} {a : AV} {v : Value} {r : Result Value} (hr : r = .ok v w) (ha : Reps w (E.ow (s.own γ)) γ a .o [v]) (hl : s.live a) : QRes P E s act w r L a none :=
  ⟨v, w, γ, hr, h, ha, hl⟩

theorem fr_alloc (w : World) (o : Obj) : Fr (fun _ => False) w (w.alloc o) := ⟨rfl, rfl, rfl, by simp, fun k hk _ => Below.heap_alloc w o k hk⟩

theorem new_box (h : Sim E s act w γ) {L : Nat} (hL : s.rblk L = none) (hlow : low ≤ L) {l : AV} {us : List Value} (hl : Reps w (E.ow (s.own γ)) γ l .o us) (hv : s.live l) (h1 : ∀ u ∈ us, u.oneCell' = true) (ty : TypeId) :
    Sim E (s.setB L (some (.box l))) act (w.alloc (.cells us.toArray ty)) (upd γ (rt L) (.pointer (some ⟨w.heap.size, 0, none⟩))) := by
  refine h.new hL hlow (fr_alloc w _) (fun bk hb => by cases hb; simp) (fun e c he => by cases he) hv (fun hk => ?_)
  refine ⟨w.heap.size, us, ty, upd_at _ _ _, heap_alloc_new w _, h1, ?_⟩
  exact (hl.keep hk).gam (fun _ M hM => upd_ne _ _ (fun e => not_lv hL (hv M hM) (by rw [e])))

theorem new_row (h : Sim E s act w γ) {L : Nat} (hL : s.rblk L = none) (hlow : low ≤ L) {c : Ct} {us : List Value} {cap : Nat} {e : TypeId} (hc : c.len ≤ cap) (hu : cap * c.st ≤ us.length)
    (hcell : ∀ k j, k < c.len → j < c.st → ∃ u, us[k * c.st + j]? = some u ∧ u.oneCell' = true ∧ Reps w (E.ow (s.own γ)) γ (c.cell k j) .o [u]) (hv : ∀ k j, k < c.len → j < c.st → s.live (c.cell k j)) :
    Sim E (s.setB L (some (.row e c))) act (w.alloc (.cells us.toArray e)) (upd γ (rt L) (.slice (some ⟨w.heap.size, 0, none⟩) c.len cap)) := by
  have hflat : (Blk.row e c).flatB := fun e' c' he k j hk hj => by
    cases he
    obtain ⟨u, _, _, h3⟩ := hcell k j hk hj
    generalize c.cell k j = a at h3
    cases a <;> first | rfl | exact h3.elim
  refine h.new hL hlow (fr_alloc w _) (fun bk hb => ?_) hflat (fun M ⟨k, j, hk, hj, hM⟩ => hv k j hk hj M hM) (fun hk => ?_)
  · rcases Nat.eq_zero_or_pos cap with rfl | hp
    · rw [blkOf_slice0] at hb; cases hb
    · rw [blkOf_slice hp] at hb; cases hb; simp
  · rcases Nat.eq_zero_or_pos cap with rfl | hp
    · have h0 : c.len = 0 := by omega
      exact .inl ⟨h0, _, by rw [upd_at, h0]⟩
    · refine .inr ⟨w.heap.size, 0, cap, us, upd_at _ _ _, hp, hc, heap_alloc_new w _, by simpa using hu, fun k j hk' hj => ?_⟩
      obtain ⟨u, h1, ho, h2⟩ := hcell k j hk' hj
      exact ⟨u, by simpa using h1, ho, .of ((h2.keep hk).gam (fun _ M hM => upd_ne _ _ (fun e => not_lv hL (hv k j hk' hj M hM) (by rw [e]))))⟩

theorem q_box (h : Sim E s act w γ) {L : Nat} (hL : s.rblk L = none) (hlow : low ≤ L) {a : AV} {v : Value} (hr : Reps w (E.ow (s.own γ)) γ a .o [v]) (hl : s.live a) (hf : a.flat = true) (t : TypeId) :
    QRes P E s act w ((Instr.box t v).run P w) L (.op (rt L) 0) (some (.box a.cells)) := by
  obtain ⟨h1, ho⟩ := hr.cells hf (live_one h hl)
  have h2 := new_box h hL hlow h1 (fun M hM => hl M (has_cells hM)) ho t
  refine ⟨_, _, _, ?_, h2, ⟨rfl, rfl, by rw [upd_at]; exact ⟨w.heap.size, 0, fun j => rfl⟩⟩, fun M hM => (show rt L = M from hM) ▸ lv_addB⟩
  rw [upd_at]
  simp [Instr.box, newVar, newRow, ptrAt]

theorem q_alloc (h : Sim E s act w γ) {L : Nat} (hL : s.rblk L = none) (hlow : low ≤ L) {t : Nat} {i : TyI} (hi : tyChk P t i = true) :
    QRes P E s act w ((Instr.alloc t true (.tuple #[])).run P w) L (.op (rt L) 0) (some (.box i.zero)) := by
  obtain ⟨inf, z, h1, h2, h3, h4, h5⟩ := tyChk_info hi
  obtain ⟨hz1, hz2, hz3⟩ := zeroB_spec (w := w) (own := E.ow (s.own γ)) (γ := γ) (ro := .o) h5
  have h6 := new_box h hL hlow hz1 (fun M hM => absurd hM (hz3 M)) (hz1.ones hz2 (fun L hL => absurd hL (hz3 L))) t
  refine ⟨_, _, _, ?_, h6, ⟨rfl, rfl, by rw [upd_at]; exact ⟨w.heap.size, 0, fun j => rfl⟩⟩, fun M hM => (show rt L = M from hM) ▸ lv_addB⟩
  rw [upd_at]
  simp [Instr.alloc, zeroValue, typeInfo, h1, h4, newVar, newRow, ptrAt]

theorem run_buildSlice' (w : World) (t e : TypeId) (len : Nat) (parts : Array (Nat × Value)) (cells : Array Value) (ie : TypeInfo) (z : Value)
    (hu : P.underlying t = some (.slice e)) (hie : P.info? e = some ie) (hz : ie.zero = some z) (hsmall : ¬ len * ie.size > 2 ^ 24) (hpos : ¬ len * ie.size = 0)
    (h : Instr.fill (fun i => some (i * ie.size, ie.size)) ((Array.range (len * ie.size)).map (z.cells[· % z.cells.size]!)) parts.toList = some cells) :
    (Instr.buildSlice t len parts).run P w = .ok (.slice (some ⟨w.heap.size, 0, none⟩) len len) (w.alloc (.cells cells e)) := by
  simp [Instr.buildSlice, run_underlying hu, sizeOf, typeInfo, zeroValue, hie, hz, hsmall, hpos, h, newRow]
theorem run_buildSlice0 (w : World) (t e : TypeId) (len : Nat) (parts : Array (Nat × Value)) (cells : Array Value) (ie : TypeInfo)
    (hu : P.underlying t = some (.slice e)) (hie : P.info? e = some ie) (h0 : len * ie.size = 0)
    (h : Instr.fill (fun i => some (i * ie.size, ie.size)) #[] parts.toList = some cells) :
    (Instr.buildSlice t len parts).run P w = .ok (.slice (some ⟨w.heap.size, 0, none⟩) len len) (w.alloc (.cells cells e)) := by
  simp [Instr.buildSlice, run_underlying hu, sizeOf, typeInfo, hie, h0, h, newRow, Array.range_zero']

theorem q_buildSlice (h : Sim E s act w γ) {L : Nat} (hL : s.rblk L = none) (hlow : low ≤ L) {t : Nat} {i e : TyI} (hi : tyChk P t i = true) (he : tyChk P i.elem e = true) (hne : i.elem ≠ 0) (hsz : 0 < e.size)
    {len : Nat} (hle : len * e.size ≤ 16777216) {parts : Array (Nat × Operand)} {l : AV} (hp : partsA s e.size 0 parts.toList = some l) (hll : l.len = len * e.size) :
    QRes P E s act w ((Instr.buildSlice t len (parts.map fun (i, x) => (i, act.eval x))).run P w) L (.os (rt L)) (some (.row i.elem (ctOf e.zero e.size len l))) := by
  obtain ⟨inf, z, h1, h2, h3, h4, h5⟩ := tyChk_info he
  have hu := tyChk_elem hi hne
  have zl : e.zero.len = z.cells.size := by rw [zero_len h5]; simp
  obtain ⟨us0, h6, h7, h8, h9, h10⟩ := partsA_sound h parts.toList 0 l hp (List.replicate (parts.toList.length * e.size) undef) (by simp)
  have hpl : parts.toList.length * e.size = len * e.size := by rw [← h10, h7.len, hll]
  have hpl' : parts.toList.length = len := Nat.eq_of_mul_eq_mul_right hsz hpl
  obtain ⟨us, k6, k7, k8, k9, k10⟩ := partsA_sound h parts.toList 0 l hp ((Array.range (len * e.size)).map (z.cells[· % z.cells.size]!)).toList (by simp [← hpl'])
  simp only [Nat.zero_mul, List.take_zero, List.nil_append] at k6
  have hus : us.length = len * e.size := by rw [k10, hpl]
  obtain ⟨c1, c2, c3⟩ := ctOf_spec e.zero hll hsz (tyChk_zero he)
  have hlt : ∀ k j, k < len → j < e.size → k * e.size + j < len * e.size := fun k j hk hj => by
    have := Nat.mul_le_mul_right e.size hk
    rw [Nat.succ_mul] at this; omega
  have hlive : ∀ k j, k < (ctOf e.zero e.size len l).len → j < (ctOf e.zero e.size len l).st → s.live ((ctOf e.zero e.size len l).cell k j) := fun k j _ _ M hM => by
    unfold ctOf at hM
    split at hM
    · split at hM
      · exact hM.elim
      · exact k8 M (has_nth hM)
    · exact k8 M (has_nth hM)
  have hrow := new_row (e := i.elem) (cap := len) h hL hlow (c := ctOf e.zero e.size len l) (us := us) (by omega) (by rw [c2, hus]; exact Nat.le_refl _) (fun k j hk hj => by
    rw [c1] at hk; rw [c2] at hj ⊢
    rw [c3 k j hk hj]
    obtain ⟨u, hu1, hu2⟩ := k7.nth (by rw [hll]; exact hlt k j hk hj)
    exact ⟨u, hu1, k9 u (List.mem_of_getElem? hu1), hu2⟩) hlive
  rw [c1] at hrow
  refine ⟨_, _, _, ?_, hrow, ⟨rfl, rfl⟩, fun M hM => (show rt L = M from hM) ▸ lv_addB⟩
  rw [upd_at]
  have hfill : Instr.fill (fun i => some (i * inf.size, inf.size)) ((Array.range (len * inf.size)).map (z.cells[· % z.cells.size]!)) (parts.map fun (i, x) => (i, act.eval x)).toList = some us.toArray := by
    rw [h2, ← k6, Array.toArray_toList, Array.toList_map]
  rw [← h2] at hle
  by_cases h0 : len * inf.size = 0
  · refine run_buildSlice0 w t i.elem len _ us.toArray inf hu h1 h0 ?_
    rw [← hfill, h0]
    simp [Array.range_zero']
  · have := run_buildSlice' (P := P) w t i.elem len (parts.map fun (i, x) => (i, act.eval x)) us.toArray inf z hu h1 h4 (by omega) h0 hfill
    exact this
end
end Go.Proofs.YtaopjdeigpiejaaDoor
namespace Go.Proofs.YtaopjdeigpiejaaDoor
open Go.RowKit
set_option linter.unusedVariables false

section
variable {P : Program} {τ : List (Nat × TyI)} {E : Ent0} {w : World} {s : St} {act : Act} {γ : Nm → Value}

theorem add_at (bk o j : Nat) : (⟨bk, o, none⟩ : Addr).add j = ⟨bk, o + j, none⟩ := by
  unfold Addr.add
  split
  · next h => subst h; rfl
  · rfl

theorem q_field {a : AV} {v : Value} {t f o z : Nat} {i : TyI} (hi : tyChk P t i = true) (ha : i.agg = true) (hf : i.flds[f]? = some (o, z)) (hz : 0 < z) {own : Bool → Nat → Prop} (hr : Reps w own γ a .o [v]) (hne : addA a o ≠ .top) :
    ∃ u, (Instr.fieldAt t v f).run P w = .ok u w ∧ Reps w own γ (addA a o) .o [u] := by
  obtain ⟨fs, fd, inf, h1, h2, h3, h4, h5⟩ := tyChk_fld hi hf ha
  have hsz : (sizeOf fd.type).run P w = .ok z w := by simp [sizeOf, typeInfo, h4, h5]
  have key : ∀ (bk q : Nat), (Instr.fieldAt t (.pointer (some ⟨bk, q, none⟩)) f).run P w = .ok (.pointer (some ⟨bk, q + o, none⟩)) w := by
    intro bk q
    have hz0 : ¬ z = 0 := by omega
    simp [Instr.fieldAt, run_underlying h1, h2, Instr.sureAddr, fieldPlace, hsz, hz0, h3, add_at]
  cases a with
  | op L j =>
    obtain ⟨_, e, bk, q, hp⟩ := hr
    cases e
    exact ⟨_, by rw [hp]; exact key _ _, rfl, by rw [hp, Nat.add_assoc], bk, q, hp⟩
  | oe L st k j =>
    obtain ⟨_, e, bk, q, hp⟩ := hr
    cases e
    exact ⟨_, by rw [hp]; exact key _ _, rfl, by rw [hp]; simp only [Nat.add_assoc], bk, q, hp⟩
  | rp f n st cell k j =>
    obtain ⟨bk, q, e, h6⟩ := hr
    cases e
    exact ⟨_, key _ _, bk, q, by rw [Nat.add_assoc, Nat.add_assoc], h6⟩
  | _ => exact absurd rfl hne

theorem run_idx {t : Nat} {i e : TyI} (hi : tyChk P t i = true) (he : tyChk P i.elem e = true) (hne : i.elem ≠ 0) (bk o n c k : Nat) (q : IntKind) (hk : k < n) :
    (Instr.indexAt t (.slice (some ⟨bk, o, none⟩) n c) (.int q k)).run P w = .ok (.pointer (some ⟨bk, o + k * e.size, none⟩)) w := by
  have hu := tyChk_elem hi hne
  obtain ⟨inf, z, h1, h2, h3, h4, h5⟩ := tyChk_info he
  have h0 : (0 : Int) ≤ k ∧ (k : Int) < n := by omega
  simp [Instr.indexAt, asIntOf, run_underlying hu, sizeOf, typeInfo, h1, h2, h0, hk, add_at]

theorem q_idx (h : Sim E s act w γ) {t : Nat} {i e : TyI} (hi : tyChk P t i = true) (he : tyChk P i.elem e = true) (hne : i.elem ≠ 0) {x ix a : AV} {v u : Value} {nb : Option Blk}
    (hx : Reps w (E.ow (s.own γ)) γ x .o [v]) (hlx : s.live x) (hix : Reps w (E.ow (s.own γ)) γ ix .o [u]) (hy : Yields (idxA s e.size x ix) a nb) :
    nb = none ∧ ∃ r, (Instr.indexAt t v u).run P w = .ok r w ∧ Reps w (E.ow (s.own γ)) γ a .o [r] ∧ s.live a := by
  cases ix with
  | int q m =>
    cases hix
    cases x with
    | ri f q' xs =>
      simp only [idxA] at hy
      cases hz : Nat.beq e.size 1 with
      | false => rw [hz] at hy; cases hy
      | true =>
        rw [hz] at hy
        have hz' := Nat.eq_of_beq_eq_true hz
        cases hy
        rename_i k hm hk
        subst hm
        obtain ⟨A, cap, e1, hc, h1⟩ := hx
        cases e1
        obtain ⟨bk, o, rfl, h2, h3, h4⟩ := h1 (by omega)
        refine ⟨rfl, _, run_idx hi he hne bk o _ _ k q hk, ⟨bk, o, by simp [hz'], hk, h2, h3, fun k' j hk' hj => ?_⟩, fun M hM => hM.elim⟩
        obtain rfl : j = 0 := by omega
        exact ⟨_, by rw [Nat.mul_one, Nat.add_zero]; exact h4 k' hk', rfl, rfl⟩
    | rs f n st cell =>
      simp only [idxA] at hy
      cases hz : Nat.beq e.size st with
      | false => rw [hz] at hy; cases hy
      | true =>
        rw [hz] at hy
        have hz' := Nat.eq_of_beq_eq_true hz
        cases hy
        rename_i k hm hk
        subst hm
        obtain ⟨A, cap, e1, hc, h1⟩ := hx
        cases e1
        obtain ⟨bk, o, rfl, h2, h3, h4⟩ := h1 (by omega)
        exact ⟨rfl, _, run_idx hi he hne bk o _ _ k q hk, ⟨bk, o, by rw [hz', Nat.add_zero], hk, h2, h3, h4⟩, fun M hM => hM.elim⟩
    | os L =>
      simp only [idxA] at hy
      split at hy
      · rename_i e' c hL0
        have hL := St.lv_at (hlx L rfl) hL0
        cases hz : Nat.beq e.size c.st with
        | false => rw [hz] at hy; cases hy
        | true =>
          rw [hz] at hy
          have hz' := Nat.eq_of_beq_eq_true hz
          cases hy
          rename_i k hm hk
          subst hm
          obtain ⟨_, e1⟩ := hx
          cases e1
          rcases h.blks L _ hL with ⟨h0, _⟩ | ⟨bk, o, cap, us, e2, hp, h1, h2, h3, h4⟩
          · omega
          · refine ⟨rfl, _, by rw [e2]; exact run_idx hi he hne bk o _ _ k q hk, ⟨rfl, by rw [e2, hz']; rfl, bk, o, fun j => by rw [e2]; rfl⟩, fun M hM => (show L = M from hM) ▸ ⟨_, hL⟩⟩
      · cases hy
    | _ => cases hy
  | _ => cases hy

theorem q_bin {op : BinOp} {t : TypeId} {x y a : AV} {v u : Value} {nb : Option Blk} {X Y : Operand} {own : Bool → Nat → Prop} (hx : Reps w own γ x .o [v]) (hy : Reps w own γ y .o [u]) (h : Yields (binA op x y) a nb) :
    nb = none ∧ ∃ r, (do eqGuard op t X Y v u; binOp op t v u : Sem Value).run P w = .ok r w ∧ Reps w own γ a .o [r] ∧ ∀ M, ¬ a.has M := by
  unfold binA at h
  split at h
  · rename_i k m
    cases hx
    split at h
    · rename_i k' n
      cases hy
      split at h
      · cases h
        rename_i h0
        exact ⟨rfl, _, by simp [eqGuard, binOp, Op.shift, show ¬ n < 0 by omega], rfl, fun _ h => h⟩
      · cases h
        rename_i h0
        exact ⟨rfl, _, by simp [eqGuard, binOp, Op.shift, show ¬ n < 0 by omega], rfl, fun _ h => h⟩
      · rename_i n1 n2
        cases hd : decide (k = k') with
        | false => rw [hd] at h; cases h
        | true =>
          rw [hd] at h
          simp only [cond_true] at h
          have hkk := of_decide_eq_true hd
          subst hkk
          cases op <;> simp only at h <;> first
            | (cases h; done)
            | (exact absurd rfl n1)
            | (exact absurd rfl n2)
            | skip
          all_goals cases h
          all_goals first
            | (refine ⟨rfl, _, ?_, rfl, fun _ h => h⟩
               first
                | (simp [eqGuard, binOp, Op.intArith]; done)
                | (simp [eqGuard, binOp, Op.intCmp]; done)
                | (simp [eqGuard, binOp, Op.intCmp]; rfl)
                | rfl)
            | (rename_i hp
               refine ⟨rfl, _, ?_, rfl, fun _ h => h⟩
               first
                | (have hw := wrap_in hp; simp [eqGuard, binOp, Op.intArith, hw]; done)
                | (obtain ⟨h0, hp⟩ := hp; have hw := wrap_in hp; simp [eqGuard, binOp, Op.intDiv, h0, hw]; done)
                | (simp [eqGuard, binOp, Op.intDiv, hp]; done))
    · cases h
  · cases hx
    split at h
    · cases hy
      split at h
      · cases h
        rename_i h0
        refine ⟨rfl, _, ?_, rfl, fun _ h => h⟩
        simp [eqGuard, binOp, Op.stringOp, IntKind.max, IntKind.signed, IntKind.bits]
        omega
      · cases h
        exact ⟨rfl, _, by simp [eqGuard, binOp, Op.stringOp], rfl, fun _ h => h⟩
      · cases h
        exact ⟨rfl, _, by simp [eqGuard, binOp, Op.stringOp], rfl, fun _ h => h⟩
      · cases h
    · cases h
  · cases h
theorem run_part_int {t : TypeId} (h : P.underlying t = some (.int .i64)) {xs : Array Value} {k : Nat} {v : Value} (hx : xs[k]? = some v) : (part t xs k).run P w = .ok v w := by
  simp [part, isAgg, run_underlying h, hx]
theorem run_eqFields (d : Nat) {xs ys : Array Value} : ∀ {fs : List Field} {k : Nat} {a b : List Int}, eqiF P k fs = true → a.length = fs.length → b.length = fs.length → (∀ j, j < fs.length → xs[k + j]? = some (.int .i64 (a.getD j 0)) ∧ ys[k + j]? = some (.int .i64 (b.getD j 0))) →
    (Op.eqFields (d + 1) xs ys fs).run P w = .ok (decide (a = b)) w := by
  intro fs
  induction fs with
  | nil =>
    intro k a b _ ha hb _
    obtain rfl : a = [] := List.eq_nil_of_length_eq_zero ha
    obtain rfl : b = [] := List.eq_nil_of_length_eq_zero hb
    simp [Op.eqFields]
  | cons f fs ih =>
    intro k a b h ha hb hc
    simp only [eqiF, Bool.and_eq_true, decide_eq_true_eq, bne_iff_ne] at h
    obtain ⟨⟨⟨h1, h2⟩, h3⟩, h4⟩ := h
    have h3 : P.underlying f.type = some (.int .i64) := by
      split at h3
      · assumption
      · cases h3
    cases a with
    | nil => cases ha
    | cons a0 a =>
      cases b with
      | nil => cases hb
      | cons b0 b =>
        have hx := hc 0 (by simp)
        simp only [Nat.add_zero, List.getD_cons_zero] at hx
        unfold Op.eqFields
        rw [if_pos h1]
        rw [h2]
        simp only [Sem.run_bind, run_part_int h3 hx.1, run_part_int h3 hx.2, Result.andThen_ok, run_equalIn_int w d f.type .i64 .i64 a0 b0 h3]
        by_cases e : a0 = b0
        · subst e
          simp only [beq_self_eq_true, Bool.not_true, Bool.false_eq_true, if_false]
          rw [ih (a := a) (b := b) h4 (by simpa using ha) (by simpa using hb) (fun j hj => by
            have := hc (j + 1) (by simp; omega)
            simp only [List.getD_cons_succ] at this
            have e : k + 1 + j = k + (j + 1) := by omega
            rw [e]; exact this)]
          simp
        · have : (a0 == b0) = false := by simpa using e
          simp [this, e]
theorem intsOf_reps {w : World} {own : Bool → Nat → Prop} {γ : Nm → Value} : ∀ {l : AV} {a : List Int} {us : List Value}, intsOf .i64 l = some a → Reps w own γ l .o us → us = a.map (.int .i64) := by
  intro l
  induction l with
  | nil => intro a us h hr; cases h; exact hr
  | cons x l _ ih =>
    intro a us h hr
    obtain ⟨v, vs, rfl, h1, h2⟩ := hr
    cases x with
    | int q n =>
      simp only [intsOf] at h
      cases hd : decide (q = .i64) with
      | false => rw [hd] at h; cases h
      | true =>
        rw [hd] at h
        have := of_decide_eq_true hd
        subst this
        simp only [cond_true] at h
        cases hi : intsOf .i64 l with
        | none => rw [hi] at h; cases h
        | some xs =>
          rw [hi] at h
          cases h
          have e1 : [v] = [Value.int .i64 n] := h1
          rw [(List.cons.inj e1).1, ih hi h2]; rfl
    | _ => simp only [intsOf] at h; cases h
  | _ => intro a us h; cases h

theorem q_bl {op : BinOp} {t : TypeId} (hτ : TyOk P τ) {p r : Bool} {a : AV} {v u : Value} {nb : Option Blk} {X Y : Operand} {own : Bool → Nat → Prop} (hx : v = .bool p) (hy : u = .bool r) (h : Yields (blA τ op t p r) a nb) :
    nb = none ∧ ∃ r, (do eqGuard op t X Y v u; binOp op t v u : Sem Value).run P w = .ok r w ∧ Reps w own γ a .o [r] ∧ ∀ M, ¬ a.has M := by
  subst hx hy
  unfold blA at h
  split at h
  · split at h
    · rename_i i hi
      cases hb : (!i.agg && i.eqi) with
      | false => rw [hb] at h; cases h
      | true =>
        rw [hb] at h
        simp only [Bool.and_eq_true, Bool.not_eq_true'] at hb
        have ht := tyChk_bl (hτ _ _ hi) hb.1 hb.2
        cases h
        exact ⟨rfl, .bool (p == r), by simp [eqGuard, run_eql_bool w t p r ht], rfl, fun _ h => h⟩
    · cases h
  · split at h
    · rename_i i hi
      cases hb : (!i.agg && i.eqi) with
      | false => rw [hb] at h; cases h
      | true =>
        rw [hb] at h
        simp only [Bool.and_eq_true, Bool.not_eq_true'] at hb
        have ht := tyChk_bl (hτ _ _ hi) hb.1 hb.2
        cases h
        exact ⟨rfl, .bool (!(p == r)), by simp [eqGuard, run_neq_bool w t p r ht], rfl, fun _ h => h⟩
    · cases h
  · cases h
theorem q_binQ {op : BinOp} {t : TypeId} (hτ : TyOk P τ) {x y a : AV} {v u : Value} {nb : Option Blk} {X Y : Operand} {own : Bool → Nat → Prop} (hx : Reps w own γ x .o [v]) (hy : Reps w own γ y .o [u]) (h : Yields (binQ τ op t x y) a nb) :
    nb = none ∧ ∃ r, (do eqGuard op t X Y v u; binOp op t v u : Sem Value).run P w = .ok r w ∧ Reps w own γ a .o [r] ∧ ∀ M, ¬ a.has M := by
  unfold binQ at h
  split at h
  · rename_i l
    split at h
    · rename_i l'
      unfold eqlA at h
      split at h
      · split at h
        · rename_i i hi
          cases hb : (i.agg && i.eqi) with
          | false => rw [hb] at h; cases h
          | true =>
            rw [hb] at h
            simp only [Bool.and_eq_true] at hb
            obtain ⟨fs, h1, h2, h3⟩ := tyChk_eqi (hτ _ _ hi) hb.1 hb.2
            simp only [cond_true] at h
            split at h
            · rename_i xs ys hxs hys
              cases hl : (Nat.beq xs.length i.flds.length && Nat.beq ys.length i.flds.length) with
              | false => rw [hl] at h; cases h
              | true =>
                rw [hl] at h
                simp only [Bool.and_eq_true] at hl
                have e1 := (Nat.eq_of_beq_eq_true hl.1).trans (fldsB_len h2)
                have e2 := (Nat.eq_of_beq_eq_true hl.2).trans (fldsB_len h2)
                simp only [eqiB, Bool.and_eq_true, Bool.not_eq_true'] at h3
                obtain ⟨us, k1, k2⟩ := hx
                obtain ⟨vs, k3, k4⟩ := hy
                have k2 := intsOf_reps hxs k2
                have k4 := intsOf_reps hys k4
                obtain rfl : v = .agg us.toArray := (List.cons.inj k1).1
                obtain rfl : u = .agg vs.toArray := (List.cons.inj k3).1
                cases h
                refine ⟨rfl, .bool (decide (xs = ys)), ?_, rfl, fun _ h => h⟩
                have hf : P.fieldsOf t = fs := by simp [Program.fieldsOf, h1]
                have hr := run_eqFields (P := P) (w := w) 9998 (xs := us.toArray) (ys := vs.toArray) (fs := fs.toList) (k := 0) (a := xs) (b := ys) h3.2 e1 e2 (fun j hj => by
                  rw [Nat.zero_add, k2, k4]
                  have l1 : j < xs.length := by omega
                  have l2 : j < ys.length := by omega
                  simp [List.getD_eq_getElem?_getD, l1, l2])
                simp only [Sem.run_bind, run_eqGuard_agg w .eql t X Y us.toArray vs.toArray h3.1.2, Result.andThen_ok, run_eql_struct]
                rw [run_equalIn_struct w 9999 t us.toArray vs.toArray (by rw [hf]; exact h1) h3.1.1, hf, hr]
                rfl
            · cases h
        · cases h
      · cases h
    · cases h
  · split at h
    · exact q_bl hτ (by simpa [Reps] using hx) (by simpa [Reps] using hy) h
    · exact q_bl hτ (by simpa [Reps] using hx) (by simpa [Reps] using hy) h
    · exact q_bl hτ (by simpa [Reps] using hx) (by simpa [Reps] using hy) h
    · cases h
  · split at h
    · exact q_bl hτ (by simpa [Reps] using hx) (by simpa [Reps] using hy) h
    · exact q_bl hτ (by simpa [Reps] using hx) (by simpa [Reps] using hy) h
    · exact q_bl hτ (by simpa [Reps] using hx) (by simpa [Reps] using hy) h
    · cases h
  · split at h
    · exact q_bl hτ (by simpa [Reps] using hx) (by simpa [Reps] using hy) h
    · exact q_bl hτ (by simpa [Reps] using hx) (by simpa [Reps] using hy) h
    · exact q_bl hτ (by simpa [Reps] using hx) (by simpa [Reps] using hy) h
    · cases h
  · exact q_bin hx hy h
end
end Go.Proofs.YtaopjdeigpiejaaDoor
namespace Go.Proofs.YtaopjdeigpiejaaDoor
open Go.RowKit Go.MapKept
set_option linter.unusedVariables false

section
variable {P : Program} {τ : List (Nat × TyI)} {E : Ent0} {w : World} {s : St} {act : Act} {γ : Nm → Value}

theorem find_map {α : Type} (f : α → Value) (x : Int) : ∀ (l : List MapEntry) (es : List (Int × α)) (i : Nat), l.map (fun e => (e.key, e.val)) = es.map (fun p => (Value.int .i64 p.1, f p.2)) →
    (mfind es x = none ∧ Instr.findNow (.int .i64) (.int .i64 x) l i = some none ∧ ∀ v, mset es x v = es ++ [(x, v)]) ∨
    ∃ j e a, mfind es x = some a ∧ Instr.findNow (.int .i64) (.int .i64 x) l i = some (some (i + j, f a)) ∧ l[j]? = some e ∧ e.key = .int .i64 x ∧ ∀ v, mset es x v = es.set j (x, v)
  | [], [], i, _ => .inl ⟨rfl, rfl, fun _ => rfl⟩
  | [], _ :: _, i, h => by cases h
  | _ :: _, [], i, h => by cases h
  | e :: l, p :: es, i, h => by
    simp only [List.map_cons, List.cons.injEq, Prod.mk.injEq] at h
    obtain ⟨⟨h1, h2⟩, h3⟩ := h
    have hs : Instr.sameNow (.int .i64) (.int .i64 x) e.key = some (x == p.1) := by rw [h1]; rfl
    by_cases hx : x = p.1
    · refine .inr ⟨0, e, p.2, by simp [mfind, hx], ?_, rfl, by rw [h1, hx], fun v => by simp [mset, hx]⟩
      have hb : (x == p.1) = true := by simp [hx]
      simp [Instr.findNow, hs, hb, h2]
    · have hb : (x == p.1) = false := by simp [hx]
      rcases find_map f x l es (i + 1) h3 with ⟨h4, h5, h6⟩ | ⟨j, e', a, h4, h5, h6, h7, h8⟩
      · exact .inl ⟨by simp [mfind, hx, h4], by simp [Instr.findNow, hs, hb, h5], fun v => by simp [mset, hx, h6]⟩
      · exact .inr ⟨j + 1, e', a, by simp [mfind, hx, h4], by simp [Instr.findNow, hs, hb, h5]; omega, by simpa using h6, h7, fun v => by simp [mset, hx, h8]⟩

theorem run_lk {t k e r : Nat} {es : Array MapEntry} {clock : Nat} {x : Int} {z : Value} {o : Option (Nat × Value)} (ok : Bool) (ht : P.underlying t = some (.map k e)) (hk : P.underlying k = some (.int .i64)) (hz : (zeroValue e).run P w = .ok z w) (hb : w.heap[r]? = some (.map es clock))
    (hf : Instr.findNow (.int .i64) (.int .i64 x) es.toList 0 = some o) : (Instr.lookup t (.map (some r)) (.int .i64 x) ok).run P w = .ok (if ok then .tuple #[((o.map (·.2)).getD z), .bool o.isSome] else (o.map (·.2)).getD z) w := by
  have h1 := Go.MapKept.run_checkKey (P := P) (w := w) (k := .int .i64 x) hk rfl es.isEmpty 9999
  cases o with
  | none => simp [Instr.lookup, run_underlying ht, Go.MapKept.run_getObj_map hb, h1, Go.MapKept.run_findKey hk hf, hz]
  | some p => obtain ⟨j, v⟩ := p; simp [Instr.lookup, run_underlying ht, Go.MapKept.run_getObj_map hb, h1, Go.MapKept.run_findKey hk hf]

theorem zero_run {e : Nat} {i : TyI} (hi : tyChk P e i = true) (ha : i.agg = false) {a : AV} (hz : i.zero = .cons a .nil) : ∃ v, (zeroValue e).run P w = .ok v w ∧ zero1 a v = true := by
  obtain ⟨inf, z, h1, h4, h5, h6⟩ := tyChk_flat hi ha
  rw [hz, h6] at h5
  exact ⟨z, by simp [zeroValue, typeInfo, h1, h4], by simpa [zeroB] using h5⟩
theorem mpOf_ints {zero : AV} {k : IntKind} {l : List (Int × Int)} (h : mpOf zero = some (.ints k l)) : zero = .cons (.int k 0) .nil ∧ l = [] := by
  unfold mpOf at h
  split at h
  · rename_i k' n
    cases hd : decide (n = 0) with
    | false => rw [hd] at h; cases h
    | true => rw [hd] at h; cases h; exact ⟨by rw [of_decide_eq_true hd], rfl⟩
  · cases h
  · cases h
theorem mpOf_bools {zero : AV} {l : List (Int × Bool)} (h : mpOf zero = some (.bools l)) : zero = .cons .ff .nil ∧ l = [] := by
  unfold mpOf at h
  split at h
  · rename_i k' n
    cases hd : decide (n = 0) <;> (rw [hd] at h; cases h)
  · cases h; exact ⟨rfl, rfl⟩
  · cases h
theorem mpOf_nil {zero : AV} {m : Mc} (h : mpOf zero = some m) : m.entries = [] := by
  cases m with
  | ints k l => rw [(mpOf_ints h).2]; rfl
  | bools l => rw [(mpOf_bools h).2]; rfl

theorem q_makeMap (h : Sim E s act w γ) {L : Nat} (hL : s.rblk L = none) (hlow : low ≤ L) {t : Nat} {zero : AV} {m : Mc} (hm : mpOf zero = some m) : QRes P E s act w ((Instr.makeMap t none).run P w) L (.om (rt L)) (some (.mp t m)) := by
  have h2 : Sim E (s.setB L (some (.mp t m))) act (w.alloc (.map #[] 0)) (upd γ (rt L) (.map (some w.heap.size))) := by
    refine h.new hL hlow (fr_alloc w _) (fun bk hb => by cases hb; simp) (fun e c he => by cases he) (fun M hM => hM.elim) (fun hk => ?_)
    exact ⟨w.heap.size, #[], 0, upd_at _ _ _, heap_alloc_new w _, by rw [mpOf_nil hm]; rfl, MapKept.stamped_empty 0⟩
  refine ⟨_, _, _, ?_, h2, ⟨rfl, rfl⟩, fun M hM => (show rt L = M from hM) ▸ lv_addB⟩
  rw [upd_at]
  simp [Instr.makeMap, newObj]
  rfl

theorem q_lookup (h : Sim E s act w γ) {t k e : Nat} {ti ki ei : TyI} (ht : tyChk P t ti = true) (hm : ti.mp = some (k, e)) (hk : tyChk P k ki = true) (hki : ki.ik = some .i64) (he : tyChk P e ei = true) (hea : ei.agg = false) {x ix a : AV} {v u : Value} {ok : Bool} {nb : Option Blk}
    (hx : Reps w (E.ow (s.own γ)) γ x .o [v]) (hlx : s.live x) (hix : Reps w (E.ow (s.own γ)) γ ix .o [u]) (hy : Yields (lkA s t (mpOf ei.zero) x ix ok) a nb) :
    nb = none ∧ ∃ r, (Instr.lookup t v u ok).run P w = .ok r w ∧ Reps w (E.ow (s.own γ)) γ a .o [r] ∧ ∀ M, ¬ a.has M := by
  unfold lkA at hy
  split at hy
  · rename_i L n
    obtain ⟨_, e1⟩ := hx
    cases e1
    cases hix
    split at hy
    · rename_i t' m hL
      obtain ⟨r, es, clock, h1, h2, h3, _⟩ := h.blks _ _ (St.lv_at (hlx L rfl) hL)
      cases hb : Nat.beq t' t with
      | false => rw [hb] at hy; cases hy
      | true =>
        rw [hb] at hy
        simp only [cond_true] at hy
        have hu := tyChk_mp ht hm
        have huk := tyChk_ik hk hki
        split at hy
        · rename_i q l q' l' hz
          cases hd : decide (q' = q) with
          | false => rw [hd] at hy; cases hy
          | true =>
            rw [hd] at hy
            obtain rfl := of_decide_eq_true hd
            simp only [cond_true] at hy
            obtain ⟨z, z1, z2⟩ := zero_run (w := w) he hea (mpOf_ints hz).1
            have z3 : z = .int q' 0 := by
              unfold zero1 at z2
              cases z <;> simp_all
            subst z3
            have key : ∀ o, Instr.findNow (.int .i64) (.int .i64 n) es.toList 0 = some o → (o.map (·.2)).getD (.int q' 0) = .int q' (mgetI l n) → o.isSome = mhas l n →
                ∃ r', (Instr.lookup t (γ L) (.int .i64 n) ok).run P w = .ok r' w ∧ Reps w (E.ow (s.own γ)) γ (bif ok then .tup (.cons (.int q' (mgetI l n)) (.cons (.b (mhas l n)) .nil)) else .int q' (mgetI l n)) .o [r'] ∧ ∀ M, ¬ (bif ok then AV.tup (.cons (.int q' (mgetI l n)) (.cons (.b (mhas l n)) .nil)) else .int q' (mgetI l n)).has M := by
              intro o ho h5 h6
              have hr := run_lk ok hu huk z1 h2 ho
              rw [h1]
              refine ⟨_, hr, ?_, ?_⟩
              · rw [h5, h6]
                cases ok with
                | true => exact ⟨_, rfl, _, _, rfl, rfl, _, _, rfl, rfl, rfl⟩
                | false => rfl
              · cases ok with
                | true => rintro M (h | h | h) <;> exact h
                | false => exact fun M h => h
            cases hy
            refine ⟨rfl, ?_⟩
            rcases find_map (.int q') n es.toList l 0 (by rw [h3]; rfl) with ⟨g1, g2, _⟩ | ⟨j, e', a', g1, g2, _⟩
            · exact key _ g2 (by simp [mgetI, g1]) (by simp [mhas, g1])
            · exact key _ g2 (by simp [mgetI, g1]) (by simp [mhas, g1])
        · rename_i l l' hz
          obtain ⟨z, z1, z2⟩ := zero_run (w := w) he hea (mpOf_bools hz).1
          have z3 : z = .bool false := by
            unfold zero1 at z2
            split at z2 <;> first | rfl | (rename_i e1 _; cases e1; done) | (cases z2; done) | skip
            all_goals simp_all
          subst z3
          have key : ∀ o, Instr.findNow (.int .i64) (.int .i64 n) es.toList 0 = some o → (o.map (·.2)).getD (.bool false) = .bool (mgetB l n) → o.isSome = mhas l n →
              ∃ r', (Instr.lookup t (γ L) (.int .i64 n) ok).run P w = .ok r' w ∧ Reps w (E.ow (s.own γ)) γ (bif ok then .tup (.cons (.b (mgetB l n)) (.cons (.b (mhas l n)) .nil)) else .b (mgetB l n)) .o [r'] ∧ ∀ M, ¬ (bif ok then AV.tup (.cons (.b (mgetB l n)) (.cons (.b (mhas l n)) .nil)) else .b (mgetB l n)).has M := by
            intro o ho h5 h6
            have hr := run_lk ok hu huk z1 h2 ho
            rw [h1]
            refine ⟨_, hr, ?_, ?_⟩
            · rw [h5, h6]
              cases ok with
              | true => exact ⟨_, rfl, _, _, rfl, rfl, _, _, rfl, rfl, rfl⟩
              | false => rfl
            · cases ok with
              | true => rintro M (h | h | h) <;> exact h
              | false => exact fun M h => h
          cases hy
          refine ⟨rfl, ?_⟩
          rcases find_map .bool n es.toList l 0 (by rw [h3]; rfl) with ⟨g1, g2, _⟩ | ⟨j, e', a', g1, g2, _⟩
          · exact key _ g2 (by simp [mgetB, g1]) (by simp [mhas, g1])
          · exact key _ g2 (by simp [mgetB, g1]) (by simp [mhas, g1])
        · cases hy
    · cases hy
  · cases hy
end
end Go.Proofs.YtaopjdeigpiejaaDoor
namespace Go.Proofs.YtaopjdeigpiejaaDoor
open Go.RowKit
set_option linter.unusedVariables false

section
variable {P : Program} {τ : List (Nat × TyI)} {E : Ent0} {w : World} {s : St} {act : Act} {γ : Nm → Value}

theorem made_cell (z : Array Value) (n j k : Nat) (hj : j < z.size) (hk : k * z.size + j < n) : (madeCells z n).toList[k * z.size + j]? = z.toList[j]? := by
  have e : (k * z.size + j) % z.size = j := by rw [Nat.mul_comm, Nat.mul_add_mod]; exact Nat.mod_eq_of_lt hj
  simp [madeCells, hk, e, hj]

theorem q_make (h : Sim E s act w γ) {L : Nat} (hL : s.rblk L = none) (hlow : low ≤ L) {t : Nat} {i e : TyI} (hi : tyChk P t i = true) (he : tyChk P i.elem e = true) (hne : i.elem ≠ 0) (hsz : 0 < e.size) (hby : e.bytes ≤ 256)
    {q q' : IntKind} {n c : Nat} (hn : n ≤ c) (hc : c ≤ 274877906944) :
    QRes P E s act w ((Instr.makeSlice t (.int q n) (.int q' c)).run P w) L (.os (rt L)) (some (.row i.elem (zeroCt e.zero e.size n))) := by
  obtain ⟨inf, z, h1, h2, h3, h4, h5⟩ := tyChk_info he
  have hu := tyChk_elem hi hne
  have hzl : z.cells.size = e.size := by rw [← tyChk_zero he, zero_len h5]; simp
  obtain ⟨hz1, hz2, hz3⟩ := zeroB_spec (w := w) (own := E.ow (s.own γ)) (γ := γ) (ro := .o) h5
  obtain ⟨c1, c2, c3⟩ := zeroCt_spec e.zero (n := n) hsz (tyChk_zero he)
  have hr := run_make (P := P) w t i.elem inf z hu h1 h4 q q' n c (by omega) (by omega) (by
    rw [h3]
    have : (e.bytes : Int) * c ≤ 256 * 274877906944 := Int.mul_le_mul (by omega) (by omega) (by omega) (by omega)
    omega) (by omega)
  simp only [Int.toNat_natCast] at hr
  have hrow := new_row (e := i.elem) (cap := c) h hL hlow (c := zeroCt e.zero e.size n) (us := (madeCells z.cells (c * inf.size)).toList) (by omega) (by rw [c2]; simp [madeCells, h2]) (fun k j hk hj => by
    rw [c1] at hk; rw [c2] at hj ⊢
    have hlt : k * e.size + j < c * e.size := by
      have := Nat.mul_le_mul_right e.size (show k + 1 ≤ c by omega)
      rw [Nat.succ_mul] at this; omega
    obtain ⟨u, h6, h7⟩ := hz1.nth (j := j) (by rw [tyChk_zero he]; exact hj)
    have h8 := made_cell z.cells (c * inf.size) j k (by omega) (by rw [hzl, h2]; exact hlt)
    rw [hzl] at h8
    refine ⟨u, h8.trans h6, hz1.ones hz2 (fun L hL => absurd hL (hz3 L)) u (List.mem_of_getElem? h6), ?_⟩
    rcases c3 k j hk hj with e1 | ⟨e1, e2⟩
    · rw [e1]; exact h7
    · rw [e2] at h7; rw [e1]; exact h7) (fun k j _ _ M hM => by
      unfold zeroCt at hM
      split at hM
      · exact hM.elim
      · exact hM.elim
      · exact absurd (has_nth hM) (hz3 M))
  rw [c1, Array.toArray_toList] at hrow
  refine ⟨_, _, _, ?_, hrow, ⟨rfl, rfl⟩, fun M hM => (show rt L = M from hM) ▸ lv_addB⟩
  rw [upd_at]
  exact hr

theorem run_bounds {len cap l h : Nat} {lo hi : Option Int} {vl vh : Option Value} (hl : vl = lo.map (Value.int .i64) ∨ ∃ q, vl = lo.map (Value.int q)) (hh : ∃ q, vh = hi.map (Value.int q)) (h1 : lo.getD 0 = (l : Int)) (h2 : hi.getD len = (h : Int)) (h3 : l ≤ h) (h4 : h ≤ len) (h5 : len ≤ cap) :
    (Instr.sliceBounds true len cap vl vh none).run P w = .ok (l, h, cap) w := by
  obtain ⟨q', rfl⟩ := hh
  obtain ⟨q, rfl⟩ : ∃ q, vl = lo.map (Value.int q) := by rcases hl with e | e; exact ⟨_, e⟩; exact e
  have b1 : ∀ (k : IntKind) (a y : Nat) code, a ≤ y → (Instr.sliceBound (.int k (a : Int)) y code).run P w = .ok a w := fun k a y code ha => by
    simpa using run_sliceBound (P := P) w k a y code (by omega) (by omega)
  cases lo with
  | none =>
    have e0 : l = 0 := by simp at h1; omega
    subst e0
    cases hi with
    | none => have : h = len := by simp at h2; omega
              subst this; simp [Instr.sliceBounds]
    | some m => obtain rfl : m = (h : Int) := by simpa using h2
                simp [Instr.sliceBounds, b1 _ h cap _ (by omega)]
  | some m' =>
    obtain rfl : m' = (l : Int) := by simpa using h1
    cases hi with
    | none => have : h = len := by simp at h2; omega
              subst this; simp [Instr.sliceBounds, b1 _ l h _ (by omega)]
    | some m => obtain rfl : m = (h : Int) := by simpa using h2
                simp [Instr.sliceBounds, b1 _ h cap _ (by omega), b1 _ l h _ (by omega)]

theorem bnd_sound (h : Sim E s act w γ) {x : Option Operand} {b : Option Int} (hb : bndA (x.map s.ev) = some b) : ∃ q, x.map act.eval = b.map (Value.int q) := by
  cases x with
  | none => cases hb; exact ⟨.i64, rfl⟩
  | some x =>
    have hx := (ev_sound h x).1
    simp only [Option.map_some] at hb ⊢
    cases he : s.ev x with
    | int q m =>
      rw [he] at hb hx
      cases hb
      have hx' : act.eval x = .int q m := by simpa [Reps] using hx
      exact ⟨q, by rw [hx']; rfl⟩
    | _ => rw [he] at hb; cases hb

theorem q_slice (h : Sim E s act w γ) {t : Nat} {i e : TyI} (hi : tyChk P t i = true) (he : tyChk P i.elem e = true) (hne : i.elem ≠ 0) {x a : AV} {v : Value} {nb : Option Blk} {lo hi' : Option Operand}
    (hx : Reps w (E.ow (s.own γ)) γ x .o [v]) (hy : Yields (sliceA e.size x (lo.map s.ev) (hi'.map s.ev)) a nb) :
    nb = none ∧ ∃ r, (Instr.sliceAt t v (lo.map act.eval) (hi'.map act.eval) none).run P w = .ok r w ∧ Reps w (E.ow (s.own γ)) γ a .o [r] ∧ s.live a := by
  have hu := tyChk_elem hi hne
  obtain ⟨inf, z, i1, i2, i3, i4, i5⟩ := tyChk_info he
  unfold sliceA at hy
  cases hbl : bndA (lo.map s.ev) with
  | none => rw [hbl] at hy; cases hy
  | some bl =>
    cases hbh : bndA (hi'.map s.ev) with
    | none => rw [hbl, hbh] at hy; cases hy
    | some bh =>
      rw [hbl, hbh] at hy
      obtain ⟨q1, e1⟩ := bnd_sound h hbl
      obtain ⟨q2, e2⟩ := bnd_sound h hbh
      have key : ∀ (A : Option Addr) (n cap l m : Nat), bl.getD 0 = (l : Int) → bh.getD n = (m : Int) → l ≤ m → m ≤ n → n ≤ cap →
          (Instr.sliceAt t (.slice A n cap) (lo.map act.eval) (hi'.map act.eval) none).run P w = .ok (.slice (if cap = l then A else A.map (·.add (l * e.size))) (m - l) (cap - l)) w := by
        intro A n cap l m h1 h2 h3 h4 h5
        have hb := run_bounds (P := P) (w := w) (vl := lo.map act.eval) (vh := hi'.map act.eval) (.inr ⟨q1, e1⟩) ⟨q2, e2⟩ h1 h2 h3 h4 h5
        simp [Instr.sliceAt, Instr.slice, run_underlying hu, hb, sizeOf, typeInfo, i1, i2]
      cases x with
      | ri f q xs =>
        simp only at hy
        cases hz : Nat.beq e.size 1 with
        | false => rw [hz] at hy; cases hy
        | true =>
          rw [hz] at hy
          have hz' := Nat.eq_of_beq_eq_true hz
          cases hy
          rename_i l m h3 h1 h4 h2
          obtain ⟨A, cap, e3, hc, h5⟩ := hx
          cases e3
          have hlen : ((xs.take m).drop l).length = m - l := by simp [Nat.min_eq_left h4]
          refine ⟨rfl, _, key A _ cap l m h1 h2 h3 h4 hc, ⟨_, _, by rw [hlen], by omega, fun h0 => ?_⟩, fun M hM => hM.elim⟩
          obtain ⟨bk, o, rfl, h6, h7, h8⟩ := h5 (by omega)
          refine ⟨bk, o + l, by rw [if_neg (by omega)]; simp [add_at, hz'], h6, h7, fun k hk => ?_⟩
          rw [hlen] at hk
          rw [Nat.add_assoc, h8 (l + k) (by omega)]
          simp [show l + k < m by omega]
      | rs f n st cell =>
        simp only at hy
        cases hz : Nat.beq e.size st with
        | false => rw [hz] at hy; cases hy
        | true =>
          rw [hz] at hy
          have hz' := Nat.eq_of_beq_eq_true hz
          cases hy
          rename_i l m h3 h1 h4 h2
          obtain ⟨A, cap, e3, hc, h5⟩ := hx
          cases e3
          refine ⟨rfl, _, key A _ cap l m h1 h2 h3 h4 hc, ⟨_, _, rfl, by omega, fun h0 => ?_⟩, fun M hM => hM.elim⟩
          obtain ⟨bk, o, rfl, h6, h7, h8⟩ := h5 (by omega)
          refine ⟨bk, o + l * st, by rw [if_neg (by omega)]; simp [add_at, hz'], h6, h7, fun k j hk hj => ?_⟩
          obtain ⟨u, h9, ho, h10⟩ := h8 (k + l) j (by omega) hj
          exact ⟨u, by rw [← h9, Nat.add_mul]; congr 2; omega, ho, h10⟩
      | _ => cases hy

def ORes (P : Program) (E : Ent0) (s : St) (act : Act) (r : Result Next) (L : Nat) (a : AV) (nb : Option Blk) : Prop :=
  ∃ v w' γ', r = .ok (.value v) w' ∧ Sim E (s.addB L nb) act w' γ' ∧ Reps w' (E.ow ((s.addB L nb).own γ')) γ' a .o [v] ∧ (s.addB L nb).live a
theorem ORes.of {o : Oper} {m : Sem Value} {L : Nat} {a : AV} {nb : Option Blk} (h : QRes P E s act w (m.run P w) L a nb) (he : execOp act.eval o = (do let x ← m; pure (.value x))) :
    ORes P E s act ((execOp act.eval o).run P w) L a nb := by
  obtain ⟨v, w', γ', h1, h2⟩ := h
  exact ⟨v, w', γ', by rw [he]; simp [h1], h2⟩
theorem blt_pos {a b : Nat} (h : Nat.blt a b = true) : a < b := by simpa [Nat.blt_eq] using h

theorem tyChk_under {t : Nat} {i : TyI} (h : tyChk P t i = true) : ∃ d, P.underlying t = some d := by
  simp only [tyChk, Bool.and_eq_true] at h
  have h1 := h.1
  cases hd : P.underlying t with
  | none => rw [hd] at h1; cases h1
  | some d => exact ⟨d, rfl⟩
theorem q_slice0 (h : Sim E s act w γ) {t : Nat} {i e : TyI} (hi : tyChk P t i = true) (he : tyChk P i.elem e = true) (hne : i.elem ≠ 0) {x a : AV} {v : Value} {nb : Option Blk} {lo : Option Operand} {hi' mx : Operand}
    (hx : Reps w (E.ow (s.own γ)) γ x .o [v]) (hlx : s.live x) (hy : Yields (slice0A s x (lo.map s.ev) (s.ev hi') (s.ev mx)) a nb) :
    nb = none ∧ ∃ r, (Instr.sliceAt t v (lo.map act.eval) (some (act.eval hi')) (some (act.eval mx))).run P w = .ok r w ∧ Reps w (E.ow (s.own γ)) γ a .o [r] ∧ ∀ M, ¬ a.has M := by
  have hu := tyChk_elem hi hne
  obtain ⟨inf, z, i1, i2, i3, i4, i5⟩ := tyChk_info he
  unfold slice0A at hy
  split at hy
  · rename_i q1 m1 q2 m2 e0 e1 e2
    cases hd : (decide (m1 = 0) && decide (m2 = 0)) with
    | false => rw [hd] at hy; cases hy
    | true =>
      rw [hd] at hy
      simp only [cond_true] at hy
      simp only [Bool.and_eq_true, decide_eq_true_eq] at hd
      obtain ⟨rfl, rfl⟩ := hd
      have hlo : lo = none := by cases lo with | none => rfl | some _ => cases e0
      subst hlo
      have v1 : act.eval hi' = .int q1 0 := by have := (ev_sound h hi').1; rw [e1] at this; simpa [Reps] using this
      have v2 : act.eval mx = .int q2 0 := by have := (ev_sound h mx).1; rw [e2] at this; simpa [Reps] using this
      have key : ∀ (A : Option Addr) (n cap : Nat), v = .slice A n cap → ∃ r, (Instr.sliceAt t v (Option.map act.eval none) (some (act.eval hi')) (some (act.eval mx))).run P w = .ok r w ∧ Reps w (E.ow (s.own γ)) γ .e0 .o [r] ∧ ∀ M, ¬ AV.e0.has M := by
        rintro A n cap rfl
        refine ⟨.slice A 0 0, ?_, ⟨A, rfl⟩, fun M h => h⟩
        rw [v1, v2]
        have b1 := run_sliceBound (P := P) w q2 0 cap .slice3Acap (by omega) (by omega)
        have b2 := run_sliceBound (P := P) w q1 0 0 .slice3B (by omega) (by omega)
        simp only [Int.toNat_zero] at b1 b2
        simp [Instr.sliceAt, Instr.slice, run_underlying hu, Instr.sliceBounds, b1, b2, sizeOf, typeInfo, i1]
      split at hy
      · obtain ⟨A, cap, e3, _⟩ := hx; cases hy; exact ⟨rfl, key _ _ _ (List.cons.inj e3).1⟩
      · obtain ⟨A, cap, e3, _⟩ := hx; cases hy; exact ⟨rfl, key _ _ _ (List.cons.inj e3).1⟩
      · cases hy; exact ⟨rfl, key none 0 0 (by simpa [Reps] using hx)⟩
      · obtain ⟨A, e3⟩ := hx; cases hy; exact ⟨rfl, key _ _ _ (List.cons.inj e3).1⟩
      · rename_i N
        obtain ⟨_, e3⟩ := hx
        split at hy
        · rename_i e4 c hN
          cases hy
          rcases h.blks N _ (St.lv_at (hlx N rfl) hN) with ⟨h0, A, e5⟩ | ⟨bk, o, cap, us, e5, _⟩
          · exact ⟨rfl, key _ _ _ ((List.cons.inj e3).1.trans e5)⟩
          · exact ⟨rfl, key _ _ _ ((List.cons.inj e3).1.trans e5)⟩
        · cases hy
      · cases hy
  · cases hy

theorem q_len (h : Sim E s act w γ) {t : Nat} {i : TyI} (hi : tyChk P t i = true) {x a : AV} {v : Value} {nb : Option Blk} {ty : TypeId}
    (hx : Reps w (E.ow (s.own γ)) γ x .o [v]) (hlx : s.live x) (hy : Yields (lenA s (bif Nat.blt 0 i.elem then 0 else bif i.mp.isSome then 1 else 3) x) a nb) :
    nb = none ∧ ∃ r, (Builtin.len_ #[t] ty #[v]).run P w = .ok r w ∧ Reps w (E.ow (s.own γ)) γ a .o [r] ∧ ∀ M, ¬ a.has M := by
  have isS : ∀ {k : Nat}, Nat.beq (bif Nat.blt 0 i.elem then 0 else bif i.mp.isSome then 1 else 3) 0 = true → ∀ (A : Option Addr) (n cp : Nat), v = .slice A n cp → (Builtin.len_ #[t] ty #[v]).run P w = .ok (.int .i64 n) w := by
    intro k hk A n cp hv
    have hb : Nat.blt 0 i.elem = true := by
      cases hb : Nat.blt 0 i.elem with
      | true => rfl
      | false => rw [hb] at hk; cases hm : i.mp.isSome <;> (rw [hm] at hk; simp at hk)
    have hu := tyChk_elem hi (by have := blt_pos hb; omega)
    simp [Builtin.len_, run_underlying hu, hv, goInt]
  cases x with
  | ri f q xs =>
    simp only [lenA] at hy
    cases hk : Nat.beq (bif Nat.blt 0 i.elem then 0 else bif i.mp.isSome then 1 else 3) 0 with
    | false => rw [hk] at hy; cases hy
    | true =>
      rw [hk] at hy; cases hy
      obtain ⟨A, cap, e, _⟩ := hx
      exact ⟨rfl, _, isS (k := 0) hk A _ cap (List.cons.inj e).1, rfl, fun M h => h⟩
  | rs f n st cell =>
    simp only [lenA] at hy
    cases hk : Nat.beq (bif Nat.blt 0 i.elem then 0 else bif i.mp.isSome then 1 else 3) 0 with
    | false => rw [hk] at hy; cases hy
    | true =>
      rw [hk] at hy; cases hy
      obtain ⟨A, cap, e, _⟩ := hx
      exact ⟨rfl, _, isS (k := 0) hk A _ cap (List.cons.inj e).1, rfl, fun M h => h⟩
  | nl =>
    simp only [lenA] at hy
    cases hk : Nat.beq (bif Nat.blt 0 i.elem then 0 else bif i.mp.isSome then 1 else 3) 0 with
    | false => rw [hk] at hy; cases hy
    | true =>
      rw [hk] at hy; cases hy
      exact ⟨rfl, _, isS (k := 0) hk none 0 0 (by simpa [Reps] using hx), rfl, fun M h => h⟩
  | e0 =>
    simp only [lenA] at hy
    cases hk : Nat.beq (bif Nat.blt 0 i.elem then 0 else bif i.mp.isSome then 1 else 3) 0 with
    | false => rw [hk] at hy; cases hy
    | true =>
      rw [hk] at hy; cases hy
      obtain ⟨A, e⟩ := hx
      exact ⟨rfl, _, isS (k := 0) hk A 0 0 (List.cons.inj e).1, rfl, fun M h => h⟩
  | os N =>
    simp only [lenA] at hy
    cases hk : Nat.beq (bif Nat.blt 0 i.elem then 0 else bif i.mp.isSome then 1 else 3) 0 with
    | false => rw [hk] at hy; cases hy
    | true =>
      rw [hk] at hy
      simp only [cond_true] at hy
      obtain ⟨_, e⟩ := hx
      split at hy
      · rename_i e2 c hN
        cases hy
        rcases h.blks N _ (St.lv_at (hlx N rfl) hN) with ⟨h0, A, e5⟩ | ⟨bk, o, cap, us, e5, _⟩
        · exact ⟨rfl, _, isS (k := 0) hk A 0 0 ((List.cons.inj e).1.trans e5), by rw [h0]; rfl, fun M h => h⟩
        · exact ⟨rfl, _, isS (k := 0) hk _ _ cap ((List.cons.inj e).1.trans e5), rfl, fun M h => h⟩
      · cases hy
  | om L =>
    simp only [lenA] at hy
    cases hk : Nat.beq (bif Nat.blt 0 i.elem then 0 else bif i.mp.isSome then 1 else 3) 1 with
    | false => rw [hk] at hy; cases hy
    | true =>
      rw [hk] at hy
      simp only [cond_true] at hy
      obtain ⟨_, e⟩ := hx
      have hm : i.mp.isSome = true := by
        cases hm : i.mp.isSome with
        | true => rfl
        | false => rw [hm] at hk; cases hb : Nat.blt 0 i.elem <;> (rw [hb] at hk; simp at hk)
      obtain ⟨⟨kt, et⟩, hmp⟩ := Option.isSome_iff_exists.1 hm
      have hu := tyChk_mp hi hmp
      split at hy
      · rename_i t' m hL
        cases hy
        obtain ⟨r, es, clock, h1, h2, h3, _⟩ := h.blks _ _ (St.lv_at (hlx L rfl) hL)
        have hv : v = .map (some r) := (List.cons.inj e).1.trans h1
        refine ⟨rfl, .int .i64 es.size, ?_, ?_, fun M h => h⟩
        · simp [Builtin.len_, run_underlying hu, hv, Go.MapKept.run_getObj_map h2, goInt]
        · have : es.size = m.len := by
            have := congrArg List.length h3
            rw [List.length_map, Array.length_toList] at this
            rw [this]
            cases m <;> simp [Mc.entries, Mc.len]
          rw [this]; rfl
      · cases hy
  | s b =>
    simp only [lenA] at hy
    cases hk : Nat.beq (bif Nat.blt 0 i.elem then 0 else bif i.mp.isSome then 1 else 3) 2 with
    | false => rw [hk] at hy; cases hy
    | true => exact absurd hk (by cases Nat.blt 0 i.elem <;> cases i.mp.isSome <;> simp)
  | _ => cases hy
set_option maxHeartbeats 1000000 in
theorem q_sound (hτ : TyOk P τ) (h : Sim E s act w γ) {o : Oper} {L : Nat} {a : AV} {nb : Option Blk} (hy : Yields (q τ L s o.op) a nb) (hL : nb = none ∨ (s.rblk L = none ∧ low ≤ L)) :
    ORes P E s act ((execOp act.eval o).run P w) L a nb := by
  have same : ∀ {v : Value} {m : Sem Value} {a : AV}, m.run P w = .ok v w → Reps w (E.ow (s.own γ)) γ a .o [v] → s.live a → execOp act.eval o = (do let x ← m; pure (.value x)) → ORes P E s act ((execOp act.eval o).run P w) L a none :=
    fun hr hv hl he => ORes.of (QRes.same h hr hv hl) he
  have nomem : ∀ {a : AV}, (∀ M, ¬ a.has M) → s.live a := fun ha M hM => absurd hM (ha M)
  unfold q at hy
  split at hy
  · rename_i x ho
    cases hy
    exact ⟨_, w, γ, by simp [execOp, ho], h, (ev_sound h x).1, (ev_sound h x).2⟩
  · rename_i x ho
    cases hy
    exact ⟨_, w, γ, by simp [execOp, ho], h, (ev_sound h x).1, (ev_sound h x).2⟩
  · rename_i c x y ho
    have hc := (ev_sound h c).1
    split at hy
    · rename_i he
      rw [he] at hc
      have hc' : act.eval c = .bool true := by simpa [Reps] using hc
      cases hy
      exact ⟨_, w, γ, by simp [execOp, ho, hc', asBool], h, (ev_sound h x).1, (ev_sound h x).2⟩
    · rename_i he
      rw [he] at hc
      have hc' : act.eval c = .bool false := by simpa [Reps] using hc
      cases hy
      exact ⟨_, w, γ, by simp [execOp, ho, hc', asBool], h, (ev_sound h y).1, (ev_sound h y).2⟩
    · rename_i z he
      rw [he] at hc
      have hc' : act.eval c = .bool z := by simpa [Reps] using hc
      cases hy
      · rename_i hz
        subst hz
        exact ⟨_, w, γ, by simp [execOp, ho, hc', asBool], h, (ev_sound h x).1, (ev_sound h x).2⟩
      · rename_i hz
        subst hz
        exact ⟨_, w, γ, by simp [execOp, ho, hc', asBool], h, (ev_sound h y).1, (ev_sound h y).2⟩
    · cases hy
  · rename_i t ho
    split at hy
    · rename_i i hi
      cases hy
      exact ORes.of (q_alloc h (hL.resolve_left (by simp)).1 (hL.resolve_left (by simp)).2 (hτ _ _ hi)) (by simp only [execOp, ho])
    · cases hy
  · rename_i t x ho
    cases hf : (s.ev x).flat with
    | false => rw [hf] at hy; cases hy
    | true =>
      rw [hf] at hy
      cases hy
      exact ORes.of (q_box h (hL.resolve_left (by simp)).1 (hL.resolve_left (by simp)).2 (ev_sound h x).1 (ev_sound h x).2 hf t) (by simp only [execOp, ho])
  · rename_i t x ho
    split at hy
    · rename_i i hi
      obtain ⟨rfl, u, h1, h2, h3⟩ := load_sound h (hτ _ _ hi) (ev_sound h x).1 (ev_sound h x).2 hy
      exact same h1 h2 h3 (by simp only [execOp, ho])
    · cases hy
  · rename_i x ho
    have hx := ev_sound h x
    have key : ∀ {a : AV}, s.ev x = a → (∃ bk o, act.eval x = .pointer (some ⟨bk, o, none⟩)) → ORes P E s act ((execOp act.eval o).run P w) L a none := by
      rintro a e ⟨bk, o', hv⟩
      rw [e] at hx
      exact ⟨act.eval x, w, γ, by simp [execOp, ho, hv], h, hx.1, hx.2⟩
    split at hy
    · rename_i M j he
      cases hy
      refine key he ?_
      rw [he] at hx
      obtain ⟨_, e1, bk, o', hp⟩ := hx.1
      exact ⟨_, _, by have := List.cons.inj e1; rw [this.1, hp]⟩
    · rename_i N st k j he
      cases hy
      refine key he ?_
      rw [he] at hx
      obtain ⟨_, e1, bk, o', hp⟩ := hx.1
      exact ⟨_, _, by have := List.cons.inj e1; rw [this.1, hp]⟩
    · rename_i f n st cell k j he
      cases hy
      refine key he ?_
      rw [he] at hx
      obtain ⟨bk, o', e1, _⟩ := hx.1
      exact ⟨_, _, by have := List.cons.inj e1; exact this.1⟩
    · cases hy
  · rename_i t x f ho
    split at hy
    · rename_i i hi
      cases ha : i.agg with
      | false => rw [ha] at hy; cases hy
      | true =>
        rw [ha] at hy
        simp only [cond_true] at hy
        split at hy
        · rename_i o' z hf
          cases hz : Nat.blt 0 z with
          | false => rw [hz] at hy; cases hy
          | true =>
            rw [hz] at hy
            simp only [cond_true] at hy
            split at hy
            · cases hy
            · rename_i hnt
              cases hy
              obtain ⟨u, h1, h2⟩ := q_field (hτ _ _ hi) ha hf (blt_pos hz) (ev_sound h x).1 hnt
              exact same h1 h2 (fun M hM => (ev_sound h x).2 M (has_addA hM)) (by simp only [execOp, ho])
        · cases hy
    · cases hy
  · rename_i t x ix ho
    split at hy
    · rename_i i hi
      split at hy
      · rename_i e he
        cases hz : Nat.blt 0 i.elem with
        | false => rw [hz] at hy; cases hy
        | true =>
          rw [hz] at hy
          obtain ⟨rfl, u, h1, h2, h3⟩ := q_idx h (hτ _ _ hi) (hτ _ _ he) (by have := blt_pos hz; omega) (ev_sound h x).1 (ev_sound h x).2 (ev_sound h ix).1 hy
          exact same h1 h2 h3 (by simp only [execOp, ho])
      · cases hy
    · cases hy
  · rename_i op t x y t' ho
    obtain ⟨rfl, r, h1, h2, h3⟩ := q_binQ (P := P) (t := t) (X := x) (Y := y) hτ (ev_sound h x).1 (ev_sound h y).1 hy
    exact same h1 h2 (nomem h3) (by simp only [execOp, ho])
  · rename_i t x ho
    have hx := (ev_sound h x).1
    unfold notA at hy
    split at hy
    · rename_i he
      rw [he] at hx
      have hx' : act.eval x = .bool true := by simpa [Reps] using hx
      cases hy
      exact same (v := .bool false) (m := Op.unary .not (act.eval x)) (by rw [hx']; simp [Op.unary]) rfl (fun M hM => hM.elim) (by simp only [execOp, ho])
    · rename_i he
      rw [he] at hx
      have hx' : act.eval x = .bool false := by simpa [Reps] using hx
      cases hy
      exact same (v := .bool true) (m := Op.unary .not (act.eval x)) (by rw [hx']; simp [Op.unary]) rfl (fun M hM => hM.elim) (by simp only [execOp, ho])
    · rename_i z he
      rw [he] at hx
      have hx' : act.eval x = .bool z := by simpa [Reps] using hx
      cases hy
      exact same (v := .bool (!z)) (m := Op.unary .not (act.eval x)) (by rw [hx']; simp [Op.unary]) rfl (fun M hM => hM.elim) (by simp only [execOp, ho])
    · cases hy
  · rename_i t x ho
    have hx := (ev_sound h x).1
    unfold negA at hy
    split at hy
    · rename_i k n he
      rw [he] at hx
      have hx' : act.eval x = .int k n := by simpa [Reps] using hx
      have hr : (Op.unary .neg (act.eval x)).run P w = .ok (.int k (k.wrap (0 - n))) w := by rw [hx']; simp [Op.unary, Op.intArith]
      cases hy
      · rename_i hin
        rw [wrap_in hin] at hr
        exact same hr rfl (fun M hM => hM.elim) (by simp only [execOp, ho])
      · exact same hr rfl (fun M hM => hM.elim) (by simp only [execOp, ho])
    · cases hy
  · rename_i src dst x ho
    have hx := (ev_sound h x).1
    split at hy
    · rename_i i0 i k n hi0 hi he
      rw [he] at hx
      have hx' : act.eval x = .int k n := by simpa [Reps] using hx
      split at hy
      · rename_i kd hkd
        have hu := tyChk_ik (hτ _ _ hi) hkd
        obtain ⟨d0, hd0⟩ := tyChk_under (hτ _ _ hi0)
        have hr : (convert src dst (act.eval x)).run P w = .ok (.int kd (kd.wrap n)) w := by
          rw [hx']
          simp [convert, run_underlying hd0, run_underlying hu, Conv.intToInt]
        cases hy
        · rename_i hin
          rw [wrap_in hin] at hr
          exact same hr rfl (fun M hM => hM.elim) (by simp only [execOp, ho])
        · exact same hr rfl (fun M hM => hM.elim) (by simp only [execOp, ho])
      · cases hy
    · cases hy
  · rename_i x n ho
    have hx := ev_sound h x
    split at hy
    · rename_i l he
      cases hb : Nat.blt n l.len with
      | false => rw [hb] at hy; cases hy
      | true =>
        rw [hb] at hy
        cases hy
        rw [he] at hx
        obtain ⟨⟨us, e, h1⟩, h2⟩ := hx
        have e' : act.eval x = .tuple us.toArray := by simpa using e
        obtain ⟨u, h3, h4⟩ := h1.nth (blt_pos hb)
        exact same (v := u) (m := Instr.extract (act.eval x) n) (by rw [e']; simp [Instr.extract, h3]) h4 (fun M hM => h2 M (show l.has M from has_nth hM)) (by simp only [execOp, ho])
    · cases hy
  · rename_i t x f ho
    have hx := ev_sound h x
    split at hy
    · rename_i i l hi he
      split at hy
      · rename_i o z hf
        cases hb : (i.agg && Nat.beq z 1 && Nat.blt o l.len) with
        | false => rw [hb] at hy; cases hy
        | true =>
          rw [hb] at hy
          cases hy
          simp only [Bool.and_eq_true] at hb
          rw [he] at hx
          obtain ⟨⟨us, e, h1⟩, h2⟩ := hx
          have e' : act.eval x = .agg us.toArray := by simpa using e
          obtain ⟨u, h3, h4⟩ := h1.nth (blt_pos hb.2)
          obtain rfl := Nat.eq_of_beq_eq_true hb.1.2
          obtain ⟨fs, fd, h5, h6, h7, h8⟩ := tyChk_part (hτ _ _ hi) hb.1.1 hf
          exact same (v := u) (m := Instr.field t (act.eval x) f) (by rw [e']; simp [Instr.field, run_underlying h5, h6, asAgg, part, h8, h7, h3]) h4 (fun M hM => h2 M (show l.has M from has_nth hM)) (by simp only [execOp, ho])
      · cases hy
    · cases hy
  · rename_i t parts ho
    split at hy
    · rename_i i hi
      cases ha : i.agg with
      | false => rw [ha] at hy; cases hy
      | true =>
        rw [ha] at hy
        simp only [cond_true] at hy
        split at hy
        · rename_i l hf
          cases hy
          obtain ⟨v, h1, h2, h3⟩ := build_sound h (hτ _ _ hi) ha hf
          exact same h1 h2 h3 (by simp only [execOp, ho])
        · cases hy
    · cases hy
  · rename_i t len parts ho
    split at hy
    · rename_i i hi
      cases hz : Nat.blt 0 i.elem with
      | false => rw [hz] at hy; cases hy
      | true =>
        rw [hz] at hy
        simp only [cond_true] at hy
        split at hy
        · rename_i e he
          cases hb : (Nat.blt 0 e.size && Nat.ble (len * e.size) 16777216) with
          | false => rw [hb] at hy; cases hy
          | true =>
            rw [hb] at hy
            simp only [cond_true] at hy
            simp only [Bool.and_eq_true] at hb
            split at hy
            · rename_i l hp
              cases hl : Nat.beq l.len (len * e.size) with
              | false => rw [hl] at hy; cases hy
              | true =>
                rw [hl] at hy
                cases hy
                exact ORes.of (q_buildSlice h (hL.resolve_left (by simp)).1 (hL.resolve_left (by simp)).2 (hτ _ _ hi) (hτ _ _ he) (by have := blt_pos hz; omega) (blt_pos hb.1) (Nat.le_of_ble_eq_true hb.2) hp (Nat.eq_of_beq_eq_true hl)) (by simp only [execOp, ho])
            · cases hy
        · cases hy
    · cases hy
  · rename_i t l c ho
    split at hy
    · rename_i i hi
      cases hz : Nat.blt 0 i.elem with
      | false => rw [hz] at hy; cases hy
      | true =>
        rw [hz] at hy
        simp only [cond_true] at hy
        split at hy
        · rename_i e he
          cases hb : (Nat.blt 0 e.size && Nat.ble e.bytes 256) with
          | false => rw [hb] at hy; cases hy
          | true =>
            rw [hb] at hy
            simp only [cond_true] at hy
            simp only [Bool.and_eq_true] at hb
            have hl := (ev_sound h l).1
            have hc := (ev_sound h c).1
            split at hy
            · rename_i k m k' m' hel hec
              rw [hel] at hl
              rw [hec] at hc
              have hl' : act.eval l = .int k m := by simpa [Reps] using hl
              have hc' : act.eval c = .int k' m' := by simpa [Reps] using hc
              cases hy
              rename_i n cp h2 h4 h1 h3
              subst h1
              subst h3
              refine ORes.of (q_make h (hL.resolve_left (by simp)).1 (hL.resolve_left (by simp)).2 (hτ _ _ hi) (hτ _ _ he) (by have := blt_pos hz; omega) (blt_pos hb.1) (Nat.le_of_ble_eq_true hb.2) (q := k) (q' := k') h2 h4) ?_
              simp only [execOp, ho, hl', hc']
            · cases hy
        · cases hy
    · cases hy
  · rename_i t ho
    split at hy
    · rename_i i hi
      split at hy
      · rename_i k e hm
        split at hy
        · rename_i ki ei hki hei
          cases hb : (decide (ki.ik = some .i64) && !ei.agg) with
          | false => rw [hb] at hy; cases hy
          | true =>
            rw [hb] at hy
            simp only [cond_true] at hy
            split at hy
            · rename_i m hmp
              cases hy
              exact ORes.of (q_makeMap h (hL.resolve_left (by simp)).1 (hL.resolve_left (by simp)).2 hmp) (by simp only [execOp, ho, Option.map_none])
            · cases hy
        · cases hy
      · cases hy
    · cases hy
  · rename_i t x ix ok ho
    split at hy
    · rename_i i hi
      split at hy
      · rename_i k e hm
        split at hy
        · rename_i ki ei hki hei
          cases hb : (decide (ki.ik = some .i64) && !ei.agg) with
          | false => rw [hb] at hy; cases hy
          | true =>
            rw [hb] at hy
            simp only [cond_true] at hy
            simp only [Bool.and_eq_true, decide_eq_true_eq, Bool.not_eq_true'] at hb
            obtain ⟨rfl, r, h1, h2, h3⟩ := q_lookup h (hτ _ _ hi) hm (hτ _ _ hki) hb.1 (hτ _ _ hei) hb.2 (ev_sound h x).1 (ev_sound h x).2 (ev_sound h ix).1 hy
            exact same h1 h2 (nomem h3) (by simp only [execOp, ho])
        · cases hy
      · cases hy
    · cases hy
  · rename_i t x lo hi' ho
    split at hy
    · rename_i i hi
      split at hy
      · rename_i e he
        cases hz : Nat.blt 0 i.elem with
        | false => rw [hz] at hy; cases hy
        | true =>
          rw [hz] at hy
          obtain ⟨rfl, r, h1, h2, h3⟩ := q_slice h (hτ _ _ hi) (hτ _ _ he) (by have := blt_pos hz; omega) (ev_sound h x).1 hy
          exact same h1 h2 h3 (by simp only [execOp, ho, Option.map_none])
      · cases hy
    · cases hy
  · rename_i t x lo hi' mx ho
    split at hy
    · rename_i i hi
      split at hy
      · rename_i e he
        cases hz : Nat.blt 0 i.elem with
        | false => rw [hz] at hy; cases hy
        | true =>
          rw [hz] at hy
          obtain ⟨rfl, r, h1, h2, h3⟩ := q_slice0 h (hτ _ _ hi) (hτ _ _ he) (by have := blt_pos hz; omega) (ev_sound h x).1 (ev_sound h x).2 (lo := lo) (hi' := hi') (mx := mx) hy
          exact same h1 h2 (nomem h3) (by simp only [execOp, ho, Option.map_some])
      · cases hy
    · cases hy
  · rename_i f first caps ho
    cases hf : first.isEmpty with
    | false => rw [hf] at hy; cases hy
    | true =>
      rw [hf] at hy
      cases hy
      have hfe : first = #[] := by simpa using hf
      obtain ⟨h1, h2⟩ := evs_sound h caps.toList
      refine ⟨.func (.func f) #[] (caps.map act.eval), w, γ, by simp [execOp, ho, Instr.makeFunc, hfe], h, ⟨_, ?_, h1⟩, h2⟩
      rw [← Array.toList_map, Array.toArray_toList]
  · rename_i c ho
    split at hy
    · rename_i hcal
      split at hy
      · rename_i x t hx ht
        have hca : c.args = #[x] := by simpa using congrArg List.toArray hx
        have hct : c.argTypes = #[t] := by simpa using congrArg List.toArray ht
        split at hy
        · rename_i i hi
          obtain ⟨rfl, r, h1, h2, h3⟩ := q_len (ty := o.type) h (hτ _ _ hi) (ev_sound h x).1 (ev_sound h x).2 hy
          exact ⟨r, w, γ, by simp [execOp, ho, resolve, hcal, hca, hct, invoke, builtin, h1], h, h2, nomem h3⟩
        · cases hy
      · cases hy
    · rename_i hcal
      split at hy
      · rename_i x y hx
        have hca : c.args = #[x, y] := by simpa using congrArg List.toArray hx
        split at hy
        · rename_i m n hm hn
          have h1 := (ev_sound h x).1
          have h2 := (ev_sound h y).1
          rw [hm] at h1
          rw [hn] at h2
          have h1' : act.eval x = .int .i64 m := by simpa [Reps] using h1
          have h2' : act.eval y = .int .i64 n := by simpa [Reps] using h2
          cases hy
          refine ⟨.int .i64 (min m n), w, γ, ?_, h, rfl, fun M hM => hM.elim⟩
          have := run_min_int2 (P := P) w c.argTypes o.type .i64 .i64 m n
          simp [execOp, ho, resolve, hcal, hca, invoke, builtin, h1', h2', this]
          omega
        · cases hy
      · cases hy
    · rename_i hcal
      split at hy
      · rename_i x y hx
        have hca : c.args = #[x, y] := by simpa using congrArg List.toArray hx
        split at hy
        · rename_i m n hm hn
          have h1 := (ev_sound h x).1
          have h2 := (ev_sound h y).1
          rw [hm] at h1
          rw [hn] at h2
          have h1' : act.eval x = .int .i64 m := by simpa [Reps] using h1
          have h2' : act.eval y = .int .i64 n := by simpa [Reps] using h2
          cases hy
          refine ⟨.int .i64 (max m n), w, γ, ?_, h, rfl, fun M hM => hM.elim⟩
          have := run_max_int2 (P := P) w c.argTypes o.type .i64 .i64 m n
          simp [execOp, ho, resolve, hcal, hca, invoke, builtin, h1', h2', this]
          omega
        · cases hy
      · cases hy
    · split at hy <;> cases hy
    · cases hy
  · cases hy
end
end Go.Proofs.YtaopjdeigpiejaaDoor
namespace Go.Proofs.YtaopjdeigpiejaaDoor
open Go.RowKit
set_option linter.unusedVariables false

/-! ### names changed -/
def Nm.rn (ρ : Nat → Nm) (N : Nm) : Nm := ⟨(ρ N.r).r, (ρ N.r).p ++ N.p⟩
theorem rn_kid (ρ : Nat → Nm) (N : Nm) (i j : Nat) : (N.kid i j).rn ρ = (N.rn ρ).kid i j := by simp [Nm.rn, Nm.kid]
theorem rn_rt (ρ : Nat → Nm) (L : Nat) : (rt L).rn ρ = ρ L := by simp [Nm.rn]
theorem rn_at (ρ : Nat → Nm) (L : Nat) (p : List (Nat × Nat)) : (⟨L, p⟩ : Nm).rn ρ = ⟨(ρ L).r, (ρ L).p ++ p⟩ := rfl
def AV.rn (ρ : Nat → Nm) : AV → AV
  | .cons a l => .cons (a.rn ρ) (l.rn ρ)
  | .agg l => .agg (l.rn ρ)
  | .tup l => .tup (l.rn ρ)
  | .fn f l => .fn f (l.rn ρ)
  | .op N j => .op (N.rn ρ) j
  | .om N => .om (N.rn ρ)
  | .os N => .os (N.rn ρ)
  | .oe N st k j => .oe (N.rn ρ) st k j
  | .ow e n st cell => .ow e n st fun k j => (cell k j).rn ρ
  | a => a
def Ct.rn (ρ : Nat → Nm) : Ct → Ct
  | .tab n st cell => .tab n st fun k j => (cell k j).rn ρ
  | c => c
def Blk.rn (ρ : Nat → Nm) : Blk → Blk
  | .box l => .box (l.rn ρ)
  | .row e c => .row e (c.rn ρ)
  | x => x
section
variable {w : World} {own : Bool → Nat → Prop} {γ : Nm → Value} {ρ : Nat → Nm}
theorem Reps.rn : ∀ {a : AV} {m : Md} {vs : List Value}, Reps w own γ (a.rn ρ) m vs ↔ Reps w own (fun N => γ (N.rn ρ)) a m vs := by
  intro a
  induction a with
  | cons a l iha ihl => intro m vs; exact ⟨fun ⟨v, us, e, h1, h2⟩ => ⟨v, us, e, iha.1 h1, ihl.1 h2⟩, fun ⟨v, us, e, h1, h2⟩ => ⟨v, us, e, iha.2 h1, ihl.2 h2⟩⟩
  | agg l ih => intro m vs; exact ⟨fun ⟨us, e, h1⟩ => ⟨us, e, ih.1 h1⟩, fun ⟨us, e, h1⟩ => ⟨us, e, ih.2 h1⟩⟩
  | tup l ih => intro m vs; exact ⟨fun ⟨us, e, h1⟩ => ⟨us, e, ih.1 h1⟩, fun ⟨us, e, h1⟩ => ⟨us, e, ih.2 h1⟩⟩
  | fn f l ih => intro m vs; exact ⟨fun ⟨us, e, h1⟩ => ⟨us, e, ih.1 h1⟩, fun ⟨us, e, h1⟩ => ⟨us, e, ih.2 h1⟩⟩
  | rs f n st cell ih =>
    intro m vs
    constructor
    · rintro ⟨A, cap, e, hc, h1⟩
      refine ⟨A, cap, e, hc, fun hn => ?_⟩
      obtain ⟨bk, o, e1, h2, h3, h4⟩ := h1 hn
      refine ⟨bk, o, e1, h2, h3, fun k j hk hj => ?_⟩
      obtain ⟨u, h5, ho, h6⟩ := h4 k j hk hj
      exact ⟨u, h5, ho, h6.gam_ro⟩
    · rintro ⟨A, cap, e, hc, h1⟩
      refine ⟨A, cap, e, hc, fun hn => ?_⟩
      obtain ⟨bk, o, e1, h2, h3, h4⟩ := h1 hn
      refine ⟨bk, o, e1, h2, h3, fun k j hk hj => ?_⟩
      obtain ⟨u, h5, ho, h6⟩ := h4 k j hk hj
      exact ⟨u, h5, ho, h6.gam_ro⟩
  | rp f n st cell k0 j0 ih =>
    intro m vs
    constructor
    · rintro ⟨bk, o, e1, h0, h2, h3, h4⟩
      refine ⟨bk, o, e1, h0, h2, h3, fun k j hk hj => ?_⟩
      obtain ⟨u, h5, ho, h6⟩ := h4 k j hk hj
      exact ⟨u, h5, ho, h6.gam_ro⟩
    · rintro ⟨bk, o, e1, h0, h2, h3, h4⟩
      refine ⟨bk, o, e1, h0, h2, h3, fun k j hk hj => ?_⟩
      obtain ⟨u, h5, ho, h6⟩ := h4 k j hk hj
      exact ⟨u, h5, ho, h6.gam_ro⟩
  | _ => intro m vs; exact Iff.rfl
theorem Ct.rn_len (c : Ct) : (c.rn ρ).len = c.len := by cases c <;> rfl
theorem Ct.rn_st (c : Ct) : (c.rn ρ).st = c.st := by cases c <;> rfl
theorem Ct.rn_cell (c : Ct) (k j : Nat) : (c.rn ρ).cell k j = (c.cell k j).rn ρ := by cases c <;> rfl
theorem sub_rn (a : AV) : (a.rn ρ).sub = a.sub.map (Blk.rn ρ) := by cases a <;> rfl
theorem nest_rn (x : Blk) : (x.rn ρ).nest = x.nest := by
  cases x with
  | row e c => cases c <;> rfl
  | _ => rfl
theorem has_rn {M : Nm} : ∀ {a : AV}, (a.rn ρ).has M ↔ ∃ N, a.has N ∧ M = N.rn ρ := by
  intro a
  induction a with
  | cons a l iha ihl =>
    constructor
    · rintro (h | h)
      · obtain ⟨N, h1, h2⟩ := iha.1 h; exact ⟨N, .inl h1, h2⟩
      · obtain ⟨N, h1, h2⟩ := ihl.1 h; exact ⟨N, .inr h1, h2⟩
    · rintro ⟨N, h | h, e⟩
      · exact .inl (iha.2 ⟨N, h, e⟩)
      · exact .inr (ihl.2 ⟨N, h, e⟩)
  | agg l ih => exact ih
  | tup l ih => exact ih
  | fn f l ih => exact ih
  | op N j => exact ⟨fun h => ⟨N, rfl, (show N.rn ρ = M from h).symm⟩, fun ⟨N', h, e⟩ => by cases (show N = N' from h); exact e.symm⟩
  | om N => exact ⟨fun h => ⟨N, rfl, (show N.rn ρ = M from h).symm⟩, fun ⟨N', h, e⟩ => by cases (show N = N' from h); exact e.symm⟩
  | os N => exact ⟨fun h => ⟨N, rfl, (show N.rn ρ = M from h).symm⟩, fun ⟨N', h, e⟩ => by cases (show N = N' from h); exact e.symm⟩
  | oe N st k j => exact ⟨fun h => ⟨N, rfl, (show N.rn ρ = M from h).symm⟩, fun ⟨N', h, e⟩ => by cases (show N = N' from h); exact e.symm⟩
  | _ => exact ⟨fun h => h.elim, fun ⟨_, h, _⟩ => h.elim⟩
theorem hasB_rn {M : Nm} {x : Blk} : (x.rn ρ).has M ↔ ∃ N, x.has N ∧ M = N.rn ρ := by
  cases x with
  | box l => exact has_rn
  | row e c =>
    constructor
    · rintro ⟨k, j, hk, hj, h⟩
      rw [Ct.rn_cell] at h
      rw [Ct.rn_len] at hk
      rw [Ct.rn_st] at hj
      obtain ⟨N, h1, h2⟩ := has_rn.1 h
      exact ⟨N, ⟨k, j, hk, hj, h1⟩, h2⟩
    · rintro ⟨N, ⟨k, j, hk, hj, h⟩, e⟩
      exact ⟨k, j, by rw [Ct.rn_len]; exact hk, by rw [Ct.rn_st]; exact hj, by rw [Ct.rn_cell]; exact has_rn.2 ⟨N, h, e⟩⟩
  | mp t m => exact ⟨fun h => h.elim, fun ⟨_, h, _⟩ => h.elim⟩
theorem CellR.rn {N : Nm} {i j : Nat} {a : AV} {u : Value} : CellR w own γ (N.rn ρ) i j (a.rn ρ) u ↔ CellR w own (fun M => γ (M.rn ρ)) N i j a u := by
  unfold CellR
  rw [sub_rn]
  cases a.sub with
  | none => exact Reps.rn
  | some z => simp only [Option.map_some]; rw [rn_kid]
theorem BlkOk.rn {N : Nm} {x : Blk} : BlkOk w own γ (N.rn ρ) (x.rn ρ) ↔ BlkOk w own (fun M => γ (M.rn ρ)) N x := by
  cases x with
  | box l => exact ⟨fun ⟨bk, us, ty, e, h1, ho, h2⟩ => ⟨bk, us, ty, e, h1, ho, Reps.rn.1 h2⟩, fun ⟨bk, us, ty, e, h1, ho, h2⟩ => ⟨bk, us, ty, e, h1, ho, Reps.rn.2 h2⟩⟩
  | row e c =>
    constructor
    · rintro (⟨h0, A, e⟩ | ⟨bk, o, cap, us, e, hp, hc, h1, h2, h3⟩)
      · exact .inl ⟨by rw [← Ct.rn_len (ρ := ρ)]; exact h0, A, e⟩
      · rw [Ct.rn_len] at e hc
        rw [Ct.rn_st] at h2
        refine .inr ⟨bk, o, cap, us, e, hp, hc, h1, h2, fun k j hk hj => ?_⟩
        obtain ⟨u, h4, ho, h5⟩ := h3 k j (by rw [Ct.rn_len]; exact hk) (by rw [Ct.rn_st]; exact hj)
        rw [Ct.rn_st] at h4
        rw [Ct.rn_cell] at h5
        exact ⟨u, h4, ho, CellR.rn.1 h5⟩
    · rintro (⟨h0, A, e⟩ | ⟨bk, o, cap, us, e, hp, hc, h1, h2, h3⟩)
      · exact .inl ⟨by rw [Ct.rn_len]; exact h0, A, e⟩
      · refine .inr ⟨bk, o, cap, us, by rw [Ct.rn_len]; exact e, hp, by rw [Ct.rn_len]; exact hc, h1, by rw [Ct.rn_st]; exact h2, fun k j hk hj => ?_⟩
        rw [Ct.rn_len] at hk
        rw [Ct.rn_st] at hj ⊢
        obtain ⟨u, h4, ho, h5⟩ := h3 k j hk hj
        exact ⟨u, h4, ho, by rw [Ct.rn_cell]; exact CellR.rn.2 h5⟩
  | mp t m => exact Iff.rfl
theorem at_rn : ∀ {p : List (Nat × Nat)} {x z : Blk}, (x.rn ρ).At p z ↔ ∃ y, x.At p y ∧ z = y.rn ρ := by
  intro p
  induction p with
  | nil => intro x z; exact ⟨fun h => ⟨x, rfl, h⟩, fun ⟨y, h1, h2⟩ => by cases h1; exact h2⟩
  | cons q p ih =>
    obtain ⟨i, j⟩ := q
    intro x z
    constructor
    · rintro ⟨e, c, y, he, h1, h2, h3, h4⟩
      cases x with
      | row e' c' =>
        cases he
        rw [Ct.rn_cell, sub_rn] at h3
        cases hs : (c'.cell i j).sub with
        | none => rw [hs] at h3; cases h3
        | some x1 =>
          rw [hs] at h3; cases h3
          obtain ⟨y', h5, h6⟩ := ih.1 h4
          exact ⟨y', ⟨_, c', x1, rfl, by rw [Ct.rn_len] at h1; exact h1, by rw [Ct.rn_st] at h2; exact h2, hs, h5⟩, h6⟩
      | box l => cases he
      | mp t m => cases he
    · rintro ⟨y, ⟨e, c, x1, rfl, h1, h2, h3, h4⟩, rfl⟩
      exact ⟨e, c.rn ρ, x1.rn ρ, rfl, by rw [Ct.rn_len]; exact h1, by rw [Ct.rn_st]; exact h2, by rw [Ct.rn_cell, sub_rn, h3]; rfl, ih.2 ⟨y, h4, rfl⟩⟩
end

def lkx : List (Nat × Blk) → Nat → Option Blk
  | [], _ => none
  | p :: l, t => bif Nat.beq p.1 t then some p.2 else lkx l t
/-- The blocks of a list of trees. -/
def ownL (σ : List (Nat × Blk)) (γ : Nm → Value) (bk : Nat) : Prop := ∃ N x, AtL (lkx σ) N x ∧ blkOf (γ N) = some bk
def Blk.new : Blk → Prop
  | .box l => l.new
  | .row _ c => ∀ k j, k < c.len → j < c.st → (c.cell k j).new
  | .mp _ _ => True
theorem new_sub {a : AV} {x : Blk} (h : a.sub = some x) (hn : a.new) : x.new := by
  cases a <;> cases h
  · exact fun _ _ _ _ => trivial
  · exact hn
theorem new_at : ∀ {p : List (Nat × Nat)} {x z : Blk}, x.new → x.At p z → z.new := by
  intro p
  induction p with
  | nil => intro x z h hz; cases hz; exact h
  | cons q p ih =>
    obtain ⟨i, j⟩ := q
    rintro x z h ⟨e, c, y, rfl, h1, h2, h3, h4⟩
    exact ih (new_sub h3 (h i j h1 h2)) h4
theorem BlkOk.keepT {w w' : World} {own own' : Bool → Nat → Prop} {γ : Nm → Value} {N : Nm} {x : Blk} (h : BlkOk w own γ N x) (hn : x.new) (hs : w.heap.size ≤ w'.heap.size) (hb : ∀ k, k < w.heap.size → ¬ own true k → w'.heap[k]? = w.heap[k]? ∧ ¬ own' true k)
    (hbk : ∀ bk, blkOf (γ N) = some bk → w'.heap[bk]? = w.heap[bk]?) : BlkOk w' own' γ N x := by
  cases x with
  | box l =>
    obtain ⟨bk, us, ty, e, h1, ho, h2⟩ := h
    exact ⟨bk, us, ty, e, (hbk bk (by rw [e]; rfl)).trans h1, ho, h2.keepT hs hb (.inl hn)⟩
  | row e c =>
    rcases h with ⟨h0, A, e⟩ | ⟨bk, o, cap, us, e, hp, hc, h1, h2, h3⟩
    · exact .inl ⟨h0, A, e⟩
    · refine .inr ⟨bk, o, cap, us, e, hp, hc, (hbk bk (by rw [e, blkOf_slice hp])).trans h1, h2, fun k j hk hj => ?_⟩
      obtain ⟨u, h4, ho, h5⟩ := h3 k j hk hj
      refine ⟨u, h4, ho, ?_⟩
      unfold CellR at h5 ⊢
      cases ha : (c.cell k j).sub with
      | none => rw [ha] at h5; exact Reps.keepT hs hb (.inl (hn k j hk hj)) h5
      | some z => rw [ha] at h5; exact h5
  | mp t m =>
    obtain ⟨r, es, clock, e, h1, h2⟩ := h
    exact ⟨r, es, clock, e, (hbk r (by rw [e]; rfl)).trans h1, h2⟩

/-! ### what a function does -/
structure Pre (E : Ent0) (σ : List (Nat × Blk)) : Prop where
  b : E.b = ownL σ E.g
  blks : ∀ N x, AtL (lkx σ) N x → BlkOk E.w (E.ow (ownL σ E.g)) E.g N x
  mine : ∀ N x bk, AtL (lkx σ) N x → blkOf (E.g N) = some bk → bk < E.w.heap.size
  inj : ∀ N M x y bk, AtL (lkx σ) N x → AtL (lkx σ) M y → blkOf (E.g N) = some bk → blkOf (E.g M) = some bk → N = M
  wf : ∀ M x N, AtL (lkx σ) M x → x.has N → ∃ y, AtL (lkx σ) N y
structure Post (E : Ent0) (nw : Bool) (w' : World) (σ : List (Nat × Blk)) (γ : Nm → Value) : Prop where
  blks : ∀ N x, AtL (lkx σ) N x → BlkOk w' (E.ow (ownL σ γ)) γ N x ∧ (nw = true → x.new)
  mine : ∀ N x bk, AtL (lkx σ) N x → blkOf (γ N) = some bk → bk < w'.heap.size ∧ (E.w.heap.size ≤ bk ∨ E.b bk)
  inj : ∀ N M x y bk, AtL (lkx σ) N x → AtL (lkx σ) M y → blkOf (γ N) = some bk → blkOf (γ M) = some bk → N = M
  wf : ∀ M x N, AtL (lkx σ) M x → x.has N → ∃ y, AtL (lkx σ) N y
  hd : ∀ L x, L < low → lkx σ L = some x → γ (rt L) = E.g (rt L)
def Ent (P : Program) (f : Nat) : Prop := ∃ fn c, P.funcs[f]? = some fn ∧ (fn.name == "runtime.NumGoroutine") = false ∧ fn.body = some c
/-- The function f, called with what the arguments say and with the memory σ that it is lent, returns what r says; σ': what it leaves of what it was lent (names below 'low'), and new memory that it hands over. nw: what it hands over speaks of nothing old. -/
def Fn (P : Program) (f : Nat) (nw : Bool) (args : AV) (σ : List (Nat × Blk)) (r : AV) (σ' : List (Nat × Blk)) : Prop :=
  Ent P f ∧ ∀ (E : Ent0) (vs : List Value), Pre E σ → Reps E.w (E.ow (ownL σ E.g)) E.g args .o vs → (∀ N, args.has N → ∃ x, AtL (lkx σ) N x) →
    Calls P f vs.toArray E.w fun e w' => ∃ v γ, e = .returned v ∧ Fr E.b E.w w' ∧ Post E nw w' σ' γ ∧ Reps w' (E.ow (ownL σ' γ)) γ r .o [v] ∧ (nw = true → r.new) ∧ ∀ N, r.has N → ∃ x, AtL (lkx σ') N x

/-! ### what a caller shows and lends -/
/-- ns: the names that are lent, in their order. -/
def lend (ns : List Nm) (i : Nat) : Nm := ns.getD i (rt 0)
def avoid (ns : List Nm) (N : Nm) : Prop := (ns.all fun M => !Nat.beq M.r N.r) = true
/-- What the caller says (a) serves where the callee says a'. vw: may it look at the caller's own memory? ro: inside memory that is only read. dp: what it sees behind a block. -/
def argS (s : St) (ns : List Nm) (vw : Bool) (dp : AV → AV → Prop) : AV → Bool → AV → Prop
  | .cons a l, ro, a' => match a' with | .cons b m => argS s ns vw dp a ro b ∧ argS s ns vw dp l ro m | _ => False
  | .agg l, ro, a' => match a' with | .agg m => argS s ns vw dp l ro m | .top => True | _ => False
  | .tup l, ro, a' => match a' with | .tup m => argS s ns vw dp l ro m | .top => True | _ => False
  | .fn f l, ro, a' => match a' with | .fn g m => f = g ∧ argS s ns vw dp l ro m | .top => True | _ => False
  | .nil, _, a' => match a' with | .nil => True | _ => False
  | .int k x, _, a' => match a' with | .int q y => k = q ∧ x = y | .top => True | _ => False
  | .b x, _, a' => match a' with | .b y => x = y | .tt => x = true | .ff => x = false | .top => True | _ => False
  | .tt, _, a' => match a' with | .b y => true = y | .tt => True | .top => True | _ => False
  | .ff, _, a' => match a' with | .b y => false = y | .ff => True | .top => True | _ => False
  | .s x, _, a' => match a' with | .s y => x = y | .top => True | _ => False
  | .c v, _, a' => match a' with | .c u => v = u | .top => True | _ => False
  | .top, _, a' => match a' with | .top => True | _ => False
  | .nl, _, a' => match a' with | .nl => True | .e0 => True | .ri f k xs => f = false ∧ xs = [] | .rs f n st cell => f = false ∧ n = 0 | .top => True | _ => False
  | .e0, _, a' => match a' with | .e0 => True | .ri f k xs => f = false ∧ xs = [] | .rs f n st cell => f = false ∧ n = 0 | .top => True | _ => False
  | .ri _ k xs, _, a' => match a' with | .ri f q ys => f = false ∧ k = q ∧ xs = ys | .rs f m st cell => f = false ∧ xs.length = m ∧ 1 = st ∧ ∀ i, i < xs.length → cell i 0 = .int k (xs.getD i 0) | .top => True | _ => False
  | .rs _ m st cell, _, a' => match a' with | .rs f m' st' cell' => f = false ∧ m = m' ∧ st = st' ∧ ∀ i j, i < m → j < st → argS s ns vw dp (cell i j) true (cell' i j) | .top => True | _ => False
  | .rp _ m st cell i0 j0, _, a' => match a' with | .rp f m' st' cell' i1 j1 => f = false ∧ m = m' ∧ st = st' ∧ i0 = i1 ∧ j0 = j1 ∧ ∀ i j, i < m → j < st → argS s ns vw dp (cell i j) true (cell' i j) | .top => True | _ => False
  | .op N j, ro, a' =>
    match a' with
    | .op M j' => ro = false ∧ j = j' ∧ N = M.rn (lend ns) ∧ M.r < ns.length
    | .rp f m st cell i1 j1 => vw = true ∧ f = false ∧ avoid ns N ∧ (match s.blk N with | some (.box l) => m = 1 ∧ st = l.len ∧ i1 = 0 ∧ j1 = j ∧ ∀ i, i < l.len → dp (l.nth i) (cell 0 i) | _ => False)
    | .top => True
    | _ => False
  | .os N, ro, a' =>
    match a' with
    | .os M => ro = false ∧ N = M.rn (lend ns) ∧ M.r < ns.length
    | .ri f k xs => vw = true ∧ f = false ∧ avoid ns N ∧ (match s.blk N with | some (.row _ (.ints q ys)) => q = k ∧ ys = xs | _ => False)
    | .rs f m st cell => vw = true ∧ f = false ∧ avoid ns N ∧ (match s.blk N with | some (.row _ c) => c.len = m ∧ c.st = st ∧ ∀ i j, i < c.len → j < c.st → dp (c.cell i j) (cell i j) | _ => False)
    | .top => True
    | _ => False
  | .om N, ro, a' => match a' with | .om M => ro = false ∧ N = M.rn (lend ns) ∧ M.r < ns.length | .top => True | _ => False
  | .oe N st k j, ro, a' => match a' with | .oe M st' k' j' => ro = false ∧ st = st' ∧ k = k' ∧ j = j' ∧ N = M.rn (lend ns) ∧ M.r < ns.length | .top => True | _ => False
  | .oi e k xs, ro, a' => match a' with | .oi e' k' ys => ro = false ∧ e = e' ∧ k = k' ∧ xs = ys | .ri f k' ys => ro = true ∧ vw = true ∧ f = false ∧ k = k' ∧ xs = ys | .top => ro = true | _ => False
  | .ow e m st cell, ro, a' => match a' with | .ow e' m' st' cell' => ro = false ∧ e = e' ∧ m = m' ∧ st = st' ∧ ∀ i j, i < m → j < st → argS s ns vw dp (cell i j) false (cell' i j) | .rs f m' st' cell' => ro = true ∧ vw = true ∧ f = false ∧ m = m' ∧ st = st' ∧ ∀ i j, i < m → j < st → argS s ns vw dp (cell i j) true (cell' i j) | .top => ro = true | _ => False
def arg (s : St) (ns : List Nm) (vw : Bool) : Nat → Bool → AV → AV → Prop
  | 0, ro, a, a' => argS s ns vw (fun _ _ => False) a ro a'
  | n + 1, ro, a, a' => argS s ns vw (fun x y => arg s ns vw n true x y) a ro a'
def argB (s : St) (ns : List Nm) (vw : Bool) : Blk → Blk → Prop
  | .box l, y => (match y with | .box m => arg s ns vw 3 false l m | _ => False)
  | .row e (.ints k xs), y => (match y with | .row e' (.ints q ys) => e = e' ∧ k = q ∧ xs = ys | _ => False)
  | .row e (.bools xs), y => (match y with | .row e' (.bools ys) => e = e' ∧ xs = ys | _ => False)
  | .row e (.tab n st cell), y => (match y with | .row e' (.tab n' st' cell') => e = e' ∧ n = n' ∧ st = st' ∧ ∀ i j, i < n → j < st → arg s ns vw 3 false (cell i j) (cell' i j) | _ => False)
  | .mp t m, y => y = .mp t m
/-- The memory that is lent. -/
def lends (s : St) (ns0 : List Nm) (vw : Bool) : Nat → List Nm → List (Nat × Blk) → Prop
  | _, [], [] => True
  | k, N :: ns, p :: σ => p.1 = k ∧ s.lv N ∧ (match s.blk N with | some x => argB s ns0 vw x p.2 | none => False) ∧ lends s ns0 vw (k + 1) ns σ
  | _, _, _ => False
end Go.Proofs.YtaopjdeigpiejaaDoor
namespace Go.Proofs.YtaopjdeigpiejaaDoor
open Go.RowKit
set_option linter.unusedVariables false

def md (ro : Bool) : Md := if ro then .r false else .o
theorem md_fr (ro : Bool) : (md ro).fr false = false := by cases ro <;> rfl

section
variable {E : Ent0} {w : World} {s : St} {act : Act} {γ : Nm → Value} {ns : List Nm} {vw : Bool} {own0 : Bool → Nat → Prop} {γ0 : Nm → Value}

/-- What an argument must do. -/
def Serves (w : World) (E : Ent0) (s : St) (γ : Nm → Value) (ns : List Nm) (own0 : Bool → Nat → Prop) (γ0 : Nm → Value) (ro : Bool) (a a' : AV) : Prop :=
  (∀ m vs, Reps w (E.ow (s.own γ)) γ a m vs → Reps w own0 γ0 a' (md ro) vs) ∧
  (ro = true → ∀ N i j y, a.sub = some y → s.at (Nm.kid N i j) y → avoid ns N → Reps w own0 γ0 a' (md ro) [γ (N.kid i j)])

theorem top_of {a : AV} {m m' : Md} {vs : List Value} (h : Reps w (E.ow (s.own γ)) γ a m vs) (hl : a.len = 1) : Reps w own0 γ0 .top m' vs := by
  have := h.len
  rw [hl] at this
  match vs, this with
  | [v], _ => exact ⟨v, rfl⟩
theorem own_slice (h : Sim E s act w γ) {N : Nm} {e : TypeId} {c : Ct} (hN : s.at N (.row e c)) : ∃ A cap, γ N = .slice A c.len cap ∧ c.len ≤ cap ∧ (0 < c.len → ∃ bk o, A = some ⟨bk, o, none⟩ ∧ bk < w.heap.size ∧ blkOf (γ N) = some bk ∧
    ∀ k j, k < c.len → j < c.st → ∃ u, w.cell? ⟨bk, o + (k * c.st + j), none⟩ = some u ∧ u.oneCell' = true ∧ CellR w (E.ow (s.own γ)) γ N k j (c.cell k j) u) := by
  rcases h.blks N _ hN with ⟨h0, A, e1⟩ | ⟨bk, o, cap, us, e1, hp, hc, h2, h3, h4⟩
  · exact ⟨A, 0, by rw [e1, h0], by omega, fun hn => by omega⟩
  · refine ⟨_, cap, e1, hc, fun hn => ⟨bk, o, rfl, heap_lt h2, by rw [e1, blkOf_slice hp], fun k j hk hj => ?_⟩⟩
    obtain ⟨u, h5, ho, h6⟩ := h4 k j hk hj
    exact ⟨u, by rw [cell_heap h2]; exact h5, ho, h6⟩
theorem sub_cell_none {own : Bool → Nat → Prop} {a : AV} {m : Md} {vs : List Value} (h : Reps w own γ a m vs) : a.sub = none := by
  cases a <;> first | rfl | exact h.elim

theorem argS_sound (h : Sim E s act w γ) {s0 : St} (hag : ∀ N x, s.lv N → s0.blk N = some x → s.blk N = some x) (hγ : ∀ M, γ0 M = γ (M.rn (lend ns))) (hO : ∀ b f, b < w.heap.size → ¬ E.ow (s.own γ) f b → ¬ own0 false b)
    (hV : vw = true → ∀ N x bk, s.at N x → avoid ns N → blkOf (γ N) = some bk → ¬ own0 false bk) {dp : AV → AV → Prop} (hdp : ∀ a a', dp a a' → s.live a → Serves w E s γ ns own0 γ0 true a a') :
    ∀ (a : AV) (ro : Bool) (a' : AV), argS s0 ns vw dp a ro a' → s.live a → Serves w E s γ ns own0 γ0 ro a a' := by
  have cellS : ∀ {N : Nm} {i j : Nat} {a a' : AV} {u : Value}, Serves w E s γ ns own0 γ0 true a a' → CellR w (E.ow (s.own γ)) γ N i j a u → (∀ y, a.sub = some y → s.at (N.kid i j) y) → avoid ns N → Reps w own0 γ0 a' (.r false) [u] := by
    intro N i j a a' u hs hc hy hav
    cases ha : a.sub with
    | none => exact hs.1 _ _ (hc.rep ha)
    | some y => rw [hc.own ha]; exact hs.2 rfl N i j y ha (hy y ha) hav
  intro a
  induction a with
  | cons a l iha ihl =>
    intro ro a' ha hl
    unfold argS at ha
    split at ha
    · obtain ⟨h1, h2⟩ := ha
      refine ⟨fun m vs ⟨v, us, e, k1, k2⟩ => ⟨v, us, e, (iha ro _ h1 (fun N hN => hl N (.inl hN))).1 m _ k1, (ihl ro _ h2 (fun N hN => hl N (.inr hN))).1 m _ k2⟩, fun _ N i j y hy => by cases hy⟩
    · exact ha.elim
  | agg l ih =>
    intro ro a' ha hl
    unfold argS at ha
    split at ha
    · exact ⟨fun m vs ⟨us, e, k1⟩ => ⟨us, e, (ih ro _ ha hl).1 m _ k1⟩, fun _ N i j y hy => by cases hy⟩
    · exact ⟨fun m vs k => top_of k rfl, fun _ N i j y hy => by cases hy⟩
    · exact ha.elim
  | tup l ih =>
    intro ro a' ha hl
    unfold argS at ha
    split at ha
    · exact ⟨fun m vs ⟨us, e, k1⟩ => ⟨us, e, (ih ro _ ha hl).1 m _ k1⟩, fun _ N i j y hy => by cases hy⟩
    · exact ⟨fun m vs k => top_of k rfl, fun _ N i j y hy => by cases hy⟩
    · exact ha.elim
  | fn f l ih =>
    intro ro a' ha hl
    unfold argS at ha
    split at ha
    · obtain ⟨rfl, ha⟩ := ha
      exact ⟨fun m vs ⟨us, e, k1⟩ => ⟨us, e, (ih ro _ ha hl).1 m _ k1⟩, fun _ N i j y hy => by cases hy⟩
    · exact ⟨fun m vs k => top_of k rfl, fun _ N i j y hy => by cases hy⟩
    · exact ha.elim
  | nil =>
    intro ro a' ha hl
    unfold argS at ha
    split at ha
    · exact ⟨fun m vs k => k, fun _ N i j y hy => by cases hy⟩
    · exact ha.elim
  | int k x =>
    intro ro a' ha hl
    unfold argS at ha
    split at ha
    · obtain ⟨rfl, rfl⟩ := ha; exact ⟨fun m vs k => k, fun _ N i j y hy => by cases hy⟩
    · exact ⟨fun m vs k => top_of k rfl, fun _ N i j y hy => by cases hy⟩
    · exact ha.elim
  | b x =>
    intro ro a' ha hl
    unfold argS at ha
    split at ha
    · subst ha; exact ⟨fun m vs k => k, fun _ N i j y hy => by cases hy⟩
    · subst ha; exact ⟨fun m vs k => k, fun _ N i j y hy => by cases hy⟩
    · subst ha; exact ⟨fun m vs k => k, fun _ N i j y hy => by cases hy⟩
    · exact ⟨fun m vs k => top_of k rfl, fun _ N i j y hy => by cases hy⟩
    · exact ha.elim
  | tt =>
    intro ro a' ha hl
    unfold argS at ha
    split at ha
    · subst ha; exact ⟨fun m vs k => k, fun _ N i j y hy => by cases hy⟩
    · exact ⟨fun m vs k => k, fun _ N i j y hy => by cases hy⟩
    · exact ⟨fun m vs k => top_of k rfl, fun _ N i j y hy => by cases hy⟩
    · exact ha.elim
  | ff =>
    intro ro a' ha hl
    unfold argS at ha
    split at ha
    · subst ha; exact ⟨fun m vs k => k, fun _ N i j y hy => by cases hy⟩
    · exact ⟨fun m vs k => k, fun _ N i j y hy => by cases hy⟩
    · exact ⟨fun m vs k => top_of k rfl, fun _ N i j y hy => by cases hy⟩
    · exact ha.elim
  | s x =>
    intro ro a' ha hl
    unfold argS at ha
    split at ha
    · subst ha; exact ⟨fun m vs k => k, fun _ N i j y hy => by cases hy⟩
    · exact ⟨fun m vs k => top_of k rfl, fun _ N i j y hy => by cases hy⟩
    · exact ha.elim
  | c v =>
    intro ro a' ha hl
    unfold argS at ha
    split at ha
    · subst ha; exact ⟨fun m vs k => k, fun _ N i j y hy => by cases hy⟩
    · exact ⟨fun m vs k => top_of k rfl, fun _ N i j y hy => by cases hy⟩
    · exact ha.elim
  | top =>
    intro ro a' ha hl
    unfold argS at ha
    split at ha
    · exact ⟨fun m vs k => top_of k rfl, fun _ N i j y hy => by cases hy⟩
    · exact ha.elim
  | nl =>
    intro ro a' ha hl
    unfold argS at ha
    split at ha
    · exact ⟨fun m vs k => k, fun _ N i j y hy => by cases hy⟩
    · exact ⟨fun m vs k => ⟨none, k⟩, fun _ N i j y hy => by cases hy⟩
    · obtain ⟨rfl, rfl⟩ := ha; exact ⟨fun m vs k => ⟨none, 0, k, Nat.le_refl _, fun h => by cases h⟩, fun _ N i j y hy => by cases hy⟩
    · obtain ⟨rfl, rfl⟩ := ha; exact ⟨fun m vs k => ⟨none, 0, k, Nat.le_refl _, fun h => by cases h⟩, fun _ N i j y hy => by cases hy⟩
    · exact ⟨fun m vs k => top_of k rfl, fun _ N i j y hy => by cases hy⟩
    · exact ha.elim
  | e0 =>
    intro ro a' ha hl
    unfold argS at ha
    split at ha
    · exact ⟨fun m vs k => k, fun _ N i j y hy => by cases hy⟩
    · obtain ⟨rfl, rfl⟩ := ha; exact ⟨fun m vs ⟨A, k⟩ => ⟨A, 0, k, Nat.le_refl _, fun h => by cases h⟩, fun _ N i j y hy => by cases hy⟩
    · obtain ⟨rfl, rfl⟩ := ha; exact ⟨fun m vs ⟨A, k⟩ => ⟨A, 0, k, Nat.le_refl _, fun h => by cases h⟩, fun _ N i j y hy => by cases hy⟩
    · exact ⟨fun m vs k => top_of k rfl, fun _ N i j y hy => by cases hy⟩
    · exact ha.elim
  | ri f k xs =>
    intro ro a' ha hl
    unfold argS at ha
    split at ha
    · obtain ⟨rfl, rfl, rfl⟩ := ha
      refine ⟨fun m vs ⟨A, cap, e, hc, k1⟩ => ⟨A, cap, e, hc, fun hn => ?_⟩, fun _ N i j y hy => by cases hy⟩
      obtain ⟨bk, o, e1, k2, k3, k4⟩ := k1 hn
      exact ⟨bk, o, e1, k2, by rw [md_fr]; exact hO bk _ k2 k3, k4⟩
    · obtain ⟨rfl, rfl, rfl, hcell⟩ := ha
      refine ⟨fun m vs ⟨A, cap, e, hc, k1⟩ => ⟨A, cap, e, hc, fun hn => ?_⟩, fun _ N i j y hy => by cases hy⟩
      obtain ⟨bk, o, e1, k2, k3, k4⟩ := k1 hn
      refine ⟨bk, o, e1, k2, by rw [md_fr]; exact hO bk _ k2 k3, fun i j hi hj => ?_⟩
      obtain rfl : j = 0 := by omega
      exact ⟨_, by rw [Nat.mul_one, Nat.add_zero]; exact k4 i hi, rfl, by rw [hcell i hi]; rfl⟩
    · exact ⟨fun m vs k => top_of k rfl, fun _ N i j y hy => by cases hy⟩
    · exact ha.elim
  | rs f n st cell ih =>
    intro ro a' ha hl
    unfold argS at ha
    split at ha
    · obtain ⟨rfl, rfl, rfl, hcell⟩ := ha
      refine ⟨fun m vs ⟨A, cap, e, hc, k1⟩ => ⟨A, cap, e, hc, fun hn => ?_⟩, fun _ N i j y hy => by cases hy⟩
      obtain ⟨bk, o, e1, k2, k3, k4⟩ := k1 hn
      refine ⟨bk, o, e1, k2, by rw [md_fr]; exact hO bk _ k2 k3, fun i j hi hj => ?_⟩
      obtain ⟨u, k5, ho, k6⟩ := k4 i j hi hj
      refine ⟨u, k5, ho, ?_⟩
      rw [md_fr]
      exact (ih i j true _ (hcell i j hi hj) (fun N hN => absurd hN k6.has_ro)).1 _ _ k6
    · exact ⟨fun m vs k => top_of k rfl, fun _ N i j y hy => by cases hy⟩
    · exact ha.elim
  | rp f n st cell i0 j0 ih =>
    intro ro a' ha hl
    unfold argS at ha
    split at ha
    · obtain ⟨rfl, rfl, rfl, rfl, rfl, hcell⟩ := ha
      refine ⟨fun m vs ⟨bk, o, e1, k0, k2, k3, k4⟩ => ⟨bk, o, e1, k0, k2, by rw [md_fr]; exact hO bk _ k2 k3, fun i j hi hj => ?_⟩, fun _ N i j y hy => by cases hy⟩
      obtain ⟨u, k5, ho, k6⟩ := k4 i j hi hj
      refine ⟨u, k5, ho, ?_⟩
      rw [md_fr]
      exact (ih i j true _ (hcell i j hi hj) (fun N hN => absurd hN k6.has_ro)).1 _ _ k6
    · exact ⟨fun m vs k => top_of k rfl, fun _ N i j y hy => by cases hy⟩
    · exact ha.elim
  | op N j =>
    intro ro a' ha hl
    unfold argS at ha
    split at ha
    · obtain ⟨rfl, rfl, rfl, hlt⟩ := ha
      exact ⟨fun m vs ⟨_, e, k⟩ => ⟨rfl, by rw [hγ]; exact e, by rw [hγ]; exact k⟩, fun h => by cases h⟩
    · obtain ⟨hv, rfl, hav, ha⟩ := ha
      split at ha
      · rename_i l hb
        obtain ⟨rfl, rfl, rfl, rfl, hcell⟩ := ha
        have hN := St.lv_at (hl N rfl) (hag N _ (hl N rfl) hb)
        obtain ⟨bk, us, ty, e, h1, ho, h2⟩ := h.blks _ _ hN
        refine ⟨fun m vs ⟨_, e1, _⟩ => ?_, fun _ N i j y hy => by cases hy⟩
        refine ⟨bk, 0, by rw [e1, e]; simp [ptrAt], by omega, heap_lt h1, by rw [md_fr]; exact hV hv N _ bk hN hav (by rw [e]; rfl), fun k i hk hi => ?_⟩
        obtain rfl : k = 0 := by omega
        obtain ⟨u, h4, h5⟩ := h2.nth hi
        refine ⟨u, by rw [cell_heap h1]; simpa using h4, ho u (List.mem_of_getElem? h4), ?_⟩
        rw [md_fr]
        exact (hdp _ _ (hcell i hi) (fun M hM => h.wf.blk N _ M hN (has_nth hM))).1 _ _ h5
      · exact ha.elim
    · exact ⟨fun m vs k => top_of k rfl, fun _ N i j y hy => by cases hy⟩
    · exact ha.elim
  | os N =>
    intro ro a' ha hl
    unfold argS at ha
    split at ha
    · obtain ⟨rfl, rfl, hlt⟩ := ha
      exact ⟨fun m vs ⟨_, e⟩ => ⟨rfl, by rw [hγ]; exact e⟩, fun h => by cases h⟩
    · obtain ⟨hv, rfl, hav, ha⟩ := ha
      split at ha
      · rename_i e1 q ys hb
        obtain ⟨rfl, rfl⟩ := ha
        have hN := St.lv_at (hl N rfl) (hag N _ (hl N rfl) hb)
        obtain ⟨A, cap, h1, h2, h3⟩ := own_slice h hN
        refine ⟨fun m vs ⟨_, e⟩ => ⟨A, cap, by rw [e, h1]; rfl, h2, fun hn => ?_⟩, fun _ N i j y hy => by cases hy⟩
        obtain ⟨bk, o, k1, k2, k3, k4⟩ := h3 hn
        refine ⟨bk, o, k1, k2, by rw [md_fr]; exact hV hv N _ bk hN hav k3, fun k hk => ?_⟩
        obtain ⟨u, k5, _, k6⟩ := k4 k 0 hk (by exact Nat.one_pos)
        have k7 : u = .int q (ys.getD k 0) := by simpa [Reps, Ct.cell, ci] using k6.rep rfl
        rw [← k7]; simpa [Ct.st] using k5
      · exact ha.elim
    · obtain ⟨hv, rfl, hav, ha⟩ := ha
      split at ha
      · rename_i e1 c hb
        obtain ⟨rfl, rfl, hcell⟩ := ha
        have hN := St.lv_at (hl N rfl) (hag N _ (hl N rfl) hb)
        obtain ⟨A, cap, h1, h2, h3⟩ := own_slice h hN
        refine ⟨fun m vs ⟨_, e⟩ => ⟨A, cap, by rw [e, h1], h2, fun hn => ?_⟩, fun _ N i j y hy => by cases hy⟩
        obtain ⟨bk, o, k1, k2, k3, k4⟩ := h3 hn
        refine ⟨bk, o, k1, k2, by rw [md_fr]; exact hV hv N _ bk hN hav k3, fun i j hi hj => ?_⟩
        obtain ⟨u, k5, ho, k6⟩ := k4 i j hi hj
        refine ⟨u, k5, ho, ?_⟩
        rw [md_fr]
        exact cellS (hdp _ _ (hcell i j hi hj) (fun M hM => h.wf.blk N _ M hN ⟨i, j, hi, hj, hM⟩)) k6 (fun y hy => at_kid hN hi hj hy) hav
      · exact ha.elim
    · exact ⟨fun m vs k => top_of k rfl, fun _ N i j y hy => by cases hy⟩
    · exact ha.elim
  | om N =>
    intro ro a' ha hl
    unfold argS at ha
    split at ha
    · obtain ⟨rfl, rfl, hlt⟩ := ha
      exact ⟨fun m vs ⟨_, e⟩ => ⟨rfl, by rw [hγ]; exact e⟩, fun h => by cases h⟩
    · exact ⟨fun m vs k => top_of k rfl, fun _ N i j y hy => by cases hy⟩
    · exact ha.elim
  | oe N st k j =>
    intro ro a' ha hl
    unfold argS at ha
    split at ha
    · obtain ⟨rfl, rfl, rfl, rfl, rfl, hlt⟩ := ha
      exact ⟨fun m vs ⟨_, e, k⟩ => ⟨rfl, by rw [hγ]; exact e, by rw [hγ]; exact k⟩, fun h => by cases h⟩
    · exact ⟨fun m vs k => top_of k rfl, fun _ N i j y hy => by cases hy⟩
    · exact ha.elim
  | oi e k xs =>
    intro ro a' ha hl
    refine ⟨fun m vs k => k.elim, fun hr N i j y hy hN hav => ?_⟩
    cases hy
    unfold argS at ha
    split at ha
    · exact absurd (hr.symm.trans ha.1) (by simp)
    · obtain ⟨_, hv, rfl, rfl, rfl⟩ := ha
      obtain ⟨A, cap, h1, h2, h3⟩ := own_slice h hN
      refine ⟨A, cap, by rw [h1]; rfl, h2, fun hn => ?_⟩
      obtain ⟨bk, o, k1, k2, k3, k4⟩ := h3 hn
      refine ⟨bk, o, k1, k2, by rw [md_fr]; exact hV hv _ _ bk hN hav k3, fun k' hk => ?_⟩
      obtain ⟨u, k5, _, k6⟩ := k4 k' 0 hk (by exact Nat.one_pos)
      have k7 : u = .int k (xs.getD k' 0) := by simpa [Reps, Ct.cell, ci] using k6.rep rfl
      rw [← k7]; simpa [Ct.st] using k5
    · exact ⟨_, rfl⟩
    · exact ha.elim
  | ow e n st cell ih =>
    intro ro a' ha hl
    refine ⟨fun m vs k => k.elim, fun hr N i j y hy hN hav => ?_⟩
    cases hy
    unfold argS at ha
    split at ha
    · exact absurd (hr.symm.trans ha.1) (by simp)
    · obtain ⟨_, hv, rfl, rfl, rfl, hcell⟩ := ha
      obtain ⟨A, cap, h1, h2, h3⟩ := own_slice h hN
      refine ⟨A, cap, by rw [h1]; rfl, h2, fun hn => ?_⟩
      obtain ⟨bk, o, k1, k2, k3, k4⟩ := h3 hn
      refine ⟨bk, o, k1, k2, by rw [md_fr]; exact hV hv _ _ bk hN hav k3, fun i' j' hi hj => ?_⟩
      obtain ⟨u, k5, ho, k6⟩ := k4 i' j' hi hj
      refine ⟨u, k5, ho, ?_⟩
      rw [md_fr]
      exact cellS (ih i' j' true _ (hcell i' j' hi hj) (fun M hM => h.wf.blk _ _ M hN ⟨i', j', hi, hj, hM⟩)) k6 (fun y hy => at_kid hN hi hj hy) hav
    · exact ⟨_, rfl⟩
    · exact ha.elim

theorem arg_sound (h : Sim E s act w γ) {s0 : St} (hag : ∀ N x, s.lv N → s0.blk N = some x → s.blk N = some x) (hγ : ∀ M, γ0 M = γ (M.rn (lend ns))) (hO : ∀ b f, b < w.heap.size → ¬ E.ow (s.own γ) f b → ¬ own0 false b)
    (hV : vw = true → ∀ N x bk, s.at N x → avoid ns N → blkOf (γ N) = some bk → ¬ own0 false bk) : ∀ (n : Nat) (a : AV) (ro : Bool) (a' : AV), arg s0 ns vw n ro a a' → s.live a → Serves w E s γ ns own0 γ0 ro a a' := by
  intro n
  induction n with
  | zero => exact argS_sound h hag hγ hO hV (fun _ _ h => h.elim)
  | succ n ih => exact argS_sound h hag hγ hO hV (fun a a' ha hl => ih a true a' ha hl)

/-- Names of what the callee says. -/
theorem argS_has {dp : AV → AV → Prop} : ∀ (a : AV) (ro : Bool) (a' : AV), argS s ns vw dp a ro a' → ∀ M, a'.has M → M.r < ns.length ∧ a.has (M.rn (lend ns)) := by
  intro a
  induction a with
  | cons a l iha ihl =>
    intro ro a' ha M hM
    unfold argS at ha
    split at ha
    · rcases hM with hM | hM
      · exact ⟨(iha _ _ ha.1 M hM).1, .inl (iha _ _ ha.1 M hM).2⟩
      · exact ⟨(ihl _ _ ha.2 M hM).1, .inr (ihl _ _ ha.2 M hM).2⟩
    · exact ha.elim
  | agg l ih => intro ro a' ha M hM; unfold argS at ha; split at ha <;> first | exact ih _ _ ha M hM | exact hM.elim | exact ha.elim
  | tup l ih => intro ro a' ha M hM; unfold argS at ha; split at ha <;> first | exact ih _ _ ha M hM | exact hM.elim | exact ha.elim
  | fn f l ih => intro ro a' ha M hM; unfold argS at ha; split at ha <;> first | exact ih _ _ ha.2 M hM | exact hM.elim | exact ha.elim
  | op N j =>
    intro ro a' ha M hM; unfold argS at ha
    split at ha
    · obtain ⟨_, _, rfl, hlt⟩ := ha; cases hM; exact ⟨hlt, rfl⟩
    · exact hM.elim
    · exact hM.elim
    · exact ha.elim
  | os N =>
    intro ro a' ha M hM; unfold argS at ha
    split at ha
    · obtain ⟨_, rfl, hlt⟩ := ha; cases hM; exact ⟨hlt, rfl⟩
    · exact hM.elim
    · exact hM.elim
    · exact hM.elim
    · exact ha.elim
  | om N =>
    intro ro a' ha M hM; unfold argS at ha
    split at ha
    · obtain ⟨_, rfl, hlt⟩ := ha; cases hM; exact ⟨hlt, rfl⟩
    · exact hM.elim
    · exact ha.elim
  | oe N st k j =>
    intro ro a' ha M hM; unfold argS at ha
    split at ha
    · obtain ⟨_, _, _, _, rfl, hlt⟩ := ha; cases hM; exact ⟨hlt, rfl⟩
    · exact hM.elim
    · exact ha.elim
  | _ => intro ro a' ha M hM; unfold argS at ha; split at ha <;> first | exact hM.elim | exact ha.elim
theorem arg_has {n : Nat} {a : AV} {ro : Bool} {a' : AV} (h : arg s ns vw n ro a a') : ∀ M, a'.has M → M.r < ns.length ∧ a.has (M.rn (lend ns)) := by
  cases n <;> exact argS_has a ro a' h
/-- Slices of one's own in the cells of what is lent. -/
theorem arg_sub {n : Nat} {a a' : AV} (h : arg s ns vw n false a a') : (a.sub.isSome = a'.sub.isSome) ∧ ∀ y y', a.sub = some y → a'.sub = some y' → ∃ e c c', y = .row e c ∧ y' = .row e c' ∧ c.len = c'.len ∧ c.st = c'.st ∧ ∀ i j, i < c.len → j < c.st → arg s ns vw n false (c.cell i j) (c'.cell i j) := by
  have key : ∀ {dp : AV → AV → Prop}, argS s ns vw dp a false a' → (a.sub.isSome = a'.sub.isSome) ∧ ∀ y y', a.sub = some y → a'.sub = some y' → ∃ e c c', y = .row e c ∧ y' = .row e c' ∧ c.len = c'.len ∧ c.st = c'.st ∧ ∀ i j, i < c.len → j < c.st → argS s ns vw dp (c.cell i j) false (c'.cell i j) := by
    intro dp h
    cases a with
    | oi e k xs =>
      unfold argS at h
      split at h
      · obtain ⟨_, rfl, rfl, rfl⟩ := h
        refine ⟨rfl, fun y y' h1 h2 => ?_⟩
        cases h1; cases h2
        exact ⟨e, _, _, rfl, rfl, rfl, rfl, fun i j _ _ => ⟨rfl, rfl⟩⟩
      · cases h.1
      · cases h
      · exact h.elim
    | ow e n st cell =>
      unfold argS at h
      split at h
      · obtain ⟨_, rfl, rfl, rfl, hc⟩ := h
        refine ⟨rfl, fun y y' h1 h2 => ?_⟩
        cases h1; cases h2
        exact ⟨e, _, _, rfl, rfl, rfl, rfl, hc⟩
      · cases h.1
      · cases h
      · exact h.elim
    | _ =>
      unfold argS at h
      split at h <;> first | exact h.elim | exact ⟨rfl, fun y y' h1 => by cases h1⟩
  cases n <;> exact key h

theorem argB_sound (h : Sim E s act w γ) (hγ : ∀ M, γ0 M = γ (M.rn (lend ns))) (hO : ∀ b f, b < w.heap.size → ¬ E.ow (s.own γ) f b → ¬ own0 false b)
    (hV : vw = true → ∀ N x bk, s.at N x → avoid ns N → blkOf (γ N) = some bk → ¬ own0 false bk) {M : Nm} {x y : Blk} (hx : s.at (M.rn (lend ns)) x) (ha : argB s ns vw x y) : BlkOk w own0 γ0 M y := by
  have hb := h.blks _ _ hx
  cases x with
  | box l =>
    simp only [argB] at ha
    split at ha
    · obtain ⟨bk, us, ty, e, h1, ho, h2⟩ := hb
      exact ⟨bk, us, ty, by rw [hγ]; exact e, h1, ho, (arg_sound h (fun _ _ _ e => e) hγ hO hV 3 _ _ _ ha (fun N hN => h.wf.blk _ _ N hx hN)).1 _ _ h2⟩
    · exact ha.elim
  | mp t m =>
    simp only [argB] at ha
    subst ha
    obtain ⟨r, es, clock, e, h1, h2⟩ := hb
    exact ⟨r, es, clock, by rw [hγ]; exact e, h1, h2⟩
  | row e c =>
    have rowok : ∀ c', c.len = c'.len → c.st = c'.st → (∀ i j, i < c.len → j < c.st → arg s ns vw 3 false (c.cell i j) (c'.cell i j)) → BlkOk w own0 γ0 M (.row e c') := by
      intro c' h1 h2 hc
      rcases hb with ⟨h0, A, e1⟩ | ⟨bk, o, cap, us, e1, hp, h3, h4, h5, h6⟩
      · exact .inl ⟨by omega, A, by rw [hγ]; exact e1⟩
      · refine .inr ⟨bk, o, cap, us, by rw [hγ, ← h1]; exact e1, hp, by omega, h4, by rw [← h2]; exact h5, fun i j hi hj => ?_⟩
        obtain ⟨u, h7, ho, h8⟩ := h6 i j (by omega) (by omega)
        refine ⟨u, by rw [← h2]; exact h7, ho, ?_⟩
        have hcij := hc i j (by omega) (by omega)
        obtain ⟨g1, g2⟩ := arg_sub hcij
        unfold CellR
        cases ha' : (c'.cell i j).sub with
        | none =>
          rw [ha'] at g1
          have hn : (c.cell i j).sub = none := by
            cases hs : (c.cell i j).sub with
            | none => rfl
            | some z => rw [hs] at g1; cases g1
          exact (arg_sound h (fun _ _ _ e => e) hγ hO hV 3 _ _ _ hcij (fun N hN => h.wf.blk _ _ N hx ⟨i, j, by omega, by omega, hN⟩)).1 _ _ (h8.rep hn)
        | some z =>
          rw [ha'] at g1
          cases hs : (c.cell i j).sub with
          | none => rw [hs] at g1; cases g1
          | some y => simp only; rw [h8.own hs, hγ, rn_kid]
    cases c with
    | ints k xs =>
      simp only [argB] at ha
      split at ha
      · obtain ⟨rfl, rfl, rfl⟩ := ha
        exact rowok _ rfl rfl (fun i j _ _ => ⟨rfl, rfl⟩)
      · exact ha.elim
    | bools xs =>
      simp only [argB] at ha
      split at ha
      · obtain ⟨rfl, rfl⟩ := ha
        exact rowok _ rfl rfl (fun i j _ _ => rfl)
      · exact ha.elim
    | tab n st cell =>
      simp only [argB] at ha
      split at ha
      · obtain ⟨rfl, rfl, rfl, hc⟩ := ha
        exact rowok _ rfl rfl hc
      · exact ha.elim
/-- What lies behind the cells of what is lent. -/
theorem argB_at : ∀ {p : List (Nat × Nat)} {x y y' : Blk}, argB s ns vw x y → y.At p y' → ∃ x', x.At p x' ∧ argB s ns vw x' y' := by
  intro p
  induction p with
  | nil => intro x y y' ha h; cases h; exact ⟨x, rfl, ha⟩
  | cons q p ih =>
    obtain ⟨i, j⟩ := q
    rintro x y y' ha ⟨e, c, z, rfl, h1, h2, h3, h4⟩
    cases x with
    | box l => simp only [argB] at ha
    | mp t m => simp only [argB] at ha; cases ha
    | row e1 c1 =>
      cases c1 with
      | ints k xs =>
        simp only [argB] at ha
        split at ha
        · rename_i heq; cases heq; cases h3
        · exact ha.elim
      | bools xs =>
        simp only [argB] at ha
        split at ha
        · rename_i heq; cases heq; cases h3
        · exact ha.elim
      | tab n st cell =>
        simp only [argB] at ha
        split at ha
        · rename_i e2 n2 st2 cell2 heq
          cases heq
          obtain ⟨rfl, rfl, rfl, hc⟩ := ha
          have hcij := hc i j h1 h2
          have h3' : (cell2 i j).sub = some z := h3
          cases ha : cell i j with
          | oi e5 k5 xs5 =>
            rw [ha] at hcij
            have hcij' : argS s ns vw (fun x y => arg s ns vw 2 true x y) (.oi e5 k5 xs5) false (cell2 i j) := hcij
            unfold argS at hcij'
            split at hcij'
            · rename_i heq2
              obtain ⟨_, rfl, rfl, rfl⟩ := hcij'
              rw [heq2] at h3'; cases h3'
              obtain ⟨x', h5, h6⟩ := ih (x := .row e5 (.ints k5 xs5)) (by simp [argB]) h4
              exact ⟨x', ⟨_, _, _, rfl, h1, h2, by show (cell i j).sub = _; rw [ha]; rfl, h5⟩, h6⟩
            · cases hcij'.1
            · cases hcij'
            · exact hcij'.elim
          | ow e5 n5 st5 cell5 =>
            rw [ha] at hcij
            have hcij' : argS s ns vw (fun x y => arg s ns vw 2 true x y) (.ow e5 n5 st5 cell5) false (cell2 i j) := hcij
            unfold argS at hcij'
            split at hcij'
            · rename_i heq2
              obtain ⟨_, rfl, rfl, rfl, hc5⟩ := hcij'
              rw [heq2] at h3'; cases h3'
              obtain ⟨x', h5, h6⟩ := ih (x := .row e5 (.tab n5 st5 cell5)) (by unfold argB; exact ⟨rfl, rfl, rfl, hc5⟩) h4
              exact ⟨x', ⟨_, _, _, rfl, h1, h2, by show (cell i j).sub = _; rw [ha]; rfl, h5⟩, h6⟩
            · cases hcij'.1
            · cases hcij'
            · exact hcij'.elim
          | _ =>
            have := (arg_sub hcij).1
            rw [ha, h3'] at this
            cases this
        · exact ha.elim
theorem argB_at2 : ∀ {p : List (Nat × Nat)} {x y x' : Blk}, argB s ns vw x y → x.At p x' → ∃ y', y.At p y' ∧ argB s ns vw x' y' := by
  intro p
  induction p with
  | nil => intro x y y' ha h; cases h; exact ⟨y, rfl, ha⟩
  | cons q p ih =>
    obtain ⟨i, j⟩ := q
    rintro x y x' ha ⟨e, c, z, rfl, h1, h2, h3, h4⟩
    cases c with
    | ints k xs => cases h3
    | bools xs => cases h3
    | tab n st cell =>
      simp only [argB] at ha
      split at ha
      · rename_i e2 n2 st2 cell2
        obtain ⟨rfl, rfl, rfl, hc⟩ := ha
        have hcij := hc i j h1 h2
        have h3' : (cell i j).sub = some z := h3
        cases ha : cell i j with
        | oi e5 k5 xs5 =>
          rw [ha] at hcij h3'
          cases h3'
          have hcij' : argS s ns vw (fun x y => arg s ns vw 2 true x y) (.oi e5 k5 xs5) false (cell2 i j) := hcij
          unfold argS at hcij'
          split at hcij'
          · rename_i heq2
            obtain ⟨_, rfl, rfl, rfl⟩ := hcij'
            obtain ⟨y', h5, h6⟩ := ih (y := .row e5 (.ints k5 xs5)) (by simp [argB]) h4
            exact ⟨y', ⟨_, _, _, rfl, h1, h2, by show (cell2 i j).sub = _; rw [heq2]; rfl, h5⟩, h6⟩
          · cases hcij'.1
          · cases hcij'
          · exact hcij'.elim
        | ow e5 n5 st5 cell5 =>
          rw [ha] at hcij h3'
          cases h3'
          have hcij' : argS s ns vw (fun x y => arg s ns vw 2 true x y) (.ow e5 n5 st5 cell5) false (cell2 i j) := hcij
          unfold argS at hcij'
          split at hcij'
          · rename_i e6 m6 st6 cell6 heq2
            obtain ⟨_, rfl, rfl, rfl, hc5⟩ := hcij'
            obtain ⟨y', h5, h6⟩ := ih (y := .row e5 (.tab n5 st5 cell6)) (by unfold argB; exact ⟨rfl, rfl, rfl, hc5⟩) h4
            exact ⟨y', ⟨_, _, _, rfl, h1, h2, by show (cell2 i j).sub = _; rw [heq2]; rfl, h5⟩, h6⟩
          · cases hcij'.1
          · cases hcij'
          · exact hcij'.elim
        | _ => rw [ha] at h3'; cases h3'
      · exact ha.elim
theorem argB_has {x y : Blk} (ha : argB s ns vw x y) : ∀ M, y.has M → M.r < ns.length ∧ x.has (M.rn (lend ns)) := by
  intro M hM
  cases x with
  | box l =>
    simp only [argB] at ha
    split at ha
    · exact arg_has ha M hM
    · exact ha.elim
  | mp t m => simp only [argB] at ha; subst ha; exact hM.elim
  | row e c =>
    cases c with
    | ints k xs =>
      simp only [argB] at ha
      split at ha
      · obtain ⟨k, j, _, _, h⟩ := hM; exact h.elim
      · exact ha.elim
    | bools xs =>
      simp only [argB] at ha
      split at ha
      · obtain ⟨k, j, _, _, h⟩ := hM; exact h.elim
      · exact ha.elim
    | tab n st cell =>
      simp only [argB] at ha
      split at ha
      · obtain ⟨rfl, rfl, rfl, hc⟩ := ha
        obtain ⟨k, j, hk, hj, h⟩ := hM
        obtain ⟨h1, h2⟩ := arg_has (hc k j hk hj) M h
        exact ⟨h1, k, j, hk, hj, h2⟩
      · exact ha.elim

theorem lends_at : ∀ {ns' : List Nm} {σ : List (Nat × Blk)} {k : Nat}, lends s ns vw k ns' σ → (∀ L y, lkx σ L = some y → ∃ i N x, L = k + i ∧ ns'[i]? = some N ∧ s.at N x ∧ argB s ns vw x y) ∧ (∀ i N, ns'[i]? = some N → (lkx σ (k + i)).isSome = true) := by
  intro ns'
  induction ns' with
  | nil => intro σ k h; cases σ with | nil => exact ⟨fun L y h => (by cases h), fun i N h => (by simp at h)⟩ | cons p σ => exact h.elim
  | cons N ns' ih =>
    intro σ k h
    cases σ with
    | nil => exact h.elim
    | cons p σ =>
      obtain ⟨h1, h2, h3, h4⟩ := h
      obtain ⟨i1, i2⟩ := ih h4
      refine ⟨fun L y hL => ?_, fun i N' hi => ?_⟩
      · unfold lkx at hL
        cases hb : Nat.beq p.1 L with
        | true =>
          rw [hb] at hL; cases hL
          have := Nat.eq_of_beq_eq_true hb
          cases hx : s.blk N with
          | none => rw [hx] at h3; exact h3.elim
          | some x => rw [hx] at h3; exact ⟨0, N, x, by omega, rfl, St.lv_at h2 hx, h3⟩
        | false =>
          rw [hb] at hL
          obtain ⟨i, N', x, e, h5, h6⟩ := i1 L y hL
          exact ⟨i + 1, N', x, by omega, by simpa using h5, h6⟩
      · cases i with
        | zero => simp [lkx, h1]
        | succ i =>
          have h5 := i2 i N' (by simpa using hi)
          unfold lkx
          cases hb : Nat.beq p.1 (k + (i + 1)) with
          | true => rfl
          | false => rw [show k + (i + 1) = k + 1 + i by omega]; exact h5
end
end Go.Proofs.YtaopjdeigpiejaaDoor
