/-
  What an operation that leaves old memory alone yields, told by what its operands say.
-/
import Derived.Test.YtbncmiglhjfcdaaCd
import Derived.Laws.Tables
import Derived.Laws.MakeOwn
import Derived.Laws.CopyRow
import Derived.Laws.Cells
namespace Go.Proofs.Ytbncmiglhjfcdaa
open Go.RowKit
set_option linter.unusedVariables false

/-- What the code needs of a type: is it a struct; its cells, bytes, zero; its fields' places and sizes; a slice's elements; its kind of integers; a map's keys and elements. -/
structure TyI where
  agg : Bool
  size : Nat
  bytes : Nat
  zero : AV
  flds : List (Nat × Nat)
  elem : Nat
  ik : Option IntKind
  mp : Option (Nat × Nat)
def ty? : List (Nat × TyI) → Nat → Option TyI
  | [], _ => none
  | p :: l, t => bif Nat.beq p.1 t then some p.2 else ty? l t
def zero1 : AV → Value → Bool
  | .int k n, .int q m => decide (k = q) && decide (n = m)
  | .ff, .bool false => true
  | .s x, .string y => decide (x = y)
  | .nl, .slice none 0 0 => true
  | .c (.map none), .map none => true
  | .c (.pointer none), .pointer none => true
  | .c .nilFunc, .nilFunc => true
  | .c .nilIface, .nilIface => true
  | _, _ => false
def zeroB : AV → List Value → Bool
  | .nil, [] => true
  | .cons a l, v :: vs => zero1 a v && zeroB l vs
  | _, _ => false
def fldsB (P : Program) : List Field → List (Nat × Nat) → Bool
  | [], [] => true
  | f :: fs, (o, z) :: l => decide (f.offset = o) && decide ((P.info? f.type).map (·.size) = some z) && fldsB P fs l
  | _, _ => false
def tyChk (P : Program) (t : Nat) (i : TyI) : Bool :=
  (match P.underlying t with
   | some (.struct fs) => i.agg && fldsB P fs.toList i.flds && decide (i.elem = 0) && decide (i.ik = none) && decide (i.mp = none)
   | some (.array _ _) => false
   | some (.slice e) => !i.agg && decide (i.elem = e) && decide (i.ik = none) && decide (i.mp = none)
   | some (.int k) => !i.agg && decide (i.elem = 0) && decide (i.ik = some k) && decide (i.mp = none)
   | some (.map k e) => !i.agg && decide (i.elem = 0) && decide (i.ik = none) && decide (i.mp = some (k, e))
   | some _ => !i.agg && decide (i.elem = 0) && decide (i.ik = none) && decide (i.mp = none)
   | none => false) &&
  (match P.info? t with
   | some inf => decide (inf.size = i.size) && decide (inf.bytes = i.bytes) && decide (i.zero.len = i.size) && (match inf.zero with | some z => zeroB i.zero z.cells.toList && (i.agg || (match z with | .agg _ => false | _ => true)) | none => false)
   | none => false)
def TyOk (P : Program) (τ : List (Nat × TyI)) : Prop := ∀ t i, ty? τ t = some i → tyChk P t i = true
theorem TyOk.of {P : Program} {τ : List (Nat × TyI)} (h : (τ.all fun p => tyChk P p.1 p.2) = true) : TyOk P τ := by
  intro t i
  induction τ with
  | nil => intro h; cases h
  | cons p l ih =>
    intro h1
    simp only [List.all_cons, Bool.and_eq_true] at h
    unfold ty? at h1
    cases hb : Nat.beq p.1 t with
    | true =>
      rw [hb] at h1
      obtain rfl := Nat.eq_of_beq_eq_true hb
      cases h1
      exact h.1
    | false => rw [hb] at h1; exact ih h.2 h1

section
variable {P : Program} {t : Nat} {i : TyI} {w : World} {own : Bool → Nat → Prop} {γ : Nm → Value} {ro : Md}
theorem zero1_spec {a : AV} {v : Value} (h : zero1 a v = true) : Reps w own γ a ro [v] ∧ a.one = true ∧ ∀ L, ¬ a.has L := by
  unfold zero1 at h
  split at h <;> first
    | (simp only [Bool.and_eq_true, decide_eq_true_eq] at h; obtain ⟨rfl, rfl⟩ := h; exact ⟨rfl, rfl, fun _ h => h⟩)
    | (simp only [decide_eq_true_eq] at h; subst h; exact ⟨rfl, rfl, fun _ h => h⟩)
    | exact ⟨rfl, rfl, fun _ h => h⟩
    | cases h
theorem zero1_sub {a : AV} {v : Value} (h : zero1 a v = true) : a.sub = none := by
  unfold zero1 at h
  split at h <;> first | rfl | cases h
theorem zeroB_sub : ∀ {a : AV} {vs : List Value}, zeroB a vs = true → ∀ j, (a.nth j).sub = none := by
  intro a
  induction a with
  | nil => intro vs h j; rfl
  | cons a l iha ihl =>
    intro vs h j
    cases vs with
    | nil => cases h
    | cons v vs =>
      simp only [zeroB, Bool.and_eq_true] at h
      cases j with
      | zero => exact zero1_sub h.1
      | succ j => exact ihl h.2 j
  | _ => intro vs h; unfold zeroB at h; cases h
theorem zeroB_spec : ∀ {a : AV} {vs : List Value}, zeroB a vs = true → Reps w own γ a ro vs ∧ a.ones = true ∧ ∀ L, ¬ a.has L := by
  intro a
  induction a with
  | nil => intro vs h; cases vs with | nil => exact ⟨rfl, rfl, fun _ h => h⟩ | cons v vs => cases h
  | cons a l iha ihl =>
    intro vs h
    cases vs with
    | nil => cases h
    | cons v vs =>
      simp only [zeroB, Bool.and_eq_true] at h
      obtain ⟨h1, h2, h3⟩ := zero1_spec (w := w) (own := own) (γ := γ) (ro := ro) h.1
      obtain ⟨h4, h5, h6⟩ := ihl h.2
      exact ⟨⟨v, vs, rfl, h1, h4⟩, by simp [AV.ones, h2, h5], fun L hL => hL.elim (h3 L) (h6 L)⟩
  | _ => intro vs h; unfold zeroB at h; cases h
theorem tyChk_info (h : tyChk P t i = true) : ∃ inf z, P.info? t = some inf ∧ inf.size = i.size ∧ inf.bytes = i.bytes ∧ inf.zero = some z ∧ zeroB i.zero z.cells.toList = true := by
  simp only [tyChk, Bool.and_eq_true] at h
  have h2 := h.2
  cases hi : P.info? t with
  | none => rw [hi] at h2; cases h2
  | some inf =>
    rw [hi] at h2
    simp only [Bool.and_eq_true, decide_eq_true_eq] at h2
    cases hz : inf.zero with
    | none => rw [hz] at h2; cases h2.2
    | some z =>
      rw [hz] at h2
      simp only [Bool.and_eq_true] at h2
      exact ⟨inf, z, rfl, h2.1.1.1, h2.1.1.2, hz, h2.2.1⟩
theorem tyChk_flat (h : tyChk P t i = true) (ha : i.agg = false) : ∃ inf z, P.info? t = some inf ∧ inf.zero = some z ∧ zeroB i.zero z.cells.toList = true ∧ z.cells = #[z] := by
  simp only [tyChk, Bool.and_eq_true] at h
  have h2 := h.2
  cases hi : P.info? t with
  | none => rw [hi] at h2; cases h2
  | some inf =>
    rw [hi] at h2
    simp only [Bool.and_eq_true, decide_eq_true_eq] at h2
    cases hz : inf.zero with
    | none => rw [hz] at h2; cases h2.2
    | some z =>
      rw [hz] at h2
      simp only [Bool.and_eq_true, ha, Bool.false_or] at h2
      refine ⟨inf, z, rfl, hz, h2.2.1, ?_⟩
      have h3 := h2.2.2
      cases z <;> first | rfl | (cases h3; done)
theorem tyChk_zero (h : tyChk P t i = true) : i.zero.len = i.size := by
  simp only [tyChk, Bool.and_eq_true] at h
  have h2 := h.2
  cases hi : P.info? t with
  | none => rw [hi] at h2; cases h2
  | some inf =>
    rw [hi] at h2
    simp only [Bool.and_eq_true, decide_eq_true_eq] at h2
    exact h2.1.2
theorem tyChk_agg (h : tyChk P t i = true) : (isAgg t).run P w = .ok i.agg w := by
  simp only [tyChk, Bool.and_eq_true] at h
  have h1 := h.1
  cases hd : P.underlying t with
  | none => rw [hd] at h1; cases h1
  | some d =>
    rw [hd] at h1
    cases d <;> simp_all [isAgg, run_underlying hd]
theorem tyChk_elem (h : tyChk P t i = true) (he : i.elem ≠ 0) : P.underlying t = some (.slice i.elem) := by
  simp only [tyChk, Bool.and_eq_true] at h
  have h1 := h.1
  cases hd : P.underlying t with
  | none => rw [hd] at h1; cases h1
  | some d => rw [hd] at h1; cases d <;> simp_all
theorem tyChk_ik (h : tyChk P t i = true) {k : IntKind} (hk : i.ik = some k) : P.underlying t = some (.int k) := by
  simp only [tyChk, Bool.and_eq_true] at h
  have h1 := h.1
  cases hd : P.underlying t with
  | none => rw [hd] at h1; cases h1
  | some d => rw [hd] at h1; cases d <;> simp_all
theorem tyChk_mp (h : tyChk P t i = true) {k e : Nat} (hk : i.mp = some (k, e)) : P.underlying t = some (.map k e) := by
  simp only [tyChk, Bool.and_eq_true] at h
  have h1 := h.1
  cases hd : P.underlying t with
  | none => rw [hd] at h1; cases h1
  | some d => rw [hd] at h1; cases d <;> simp_all
theorem fldsB_at : ∀ {fs : List Field} {l : List (Nat × Nat)} {f o z : Nat}, fldsB P fs l = true → l[f]? = some (o, z) → ∃ fd, fs[f]? = some fd ∧ fd.offset = o ∧ (P.info? fd.type).map (·.size) = some z := by
  intro fs
  induction fs with
  | nil => intro l f o z h hf; cases l with | nil => cases hf | cons p l => cases h
  | cons fd fs ih =>
    intro l f o z h hf
    cases l with
    | nil => cases h
    | cons p l =>
      simp only [fldsB, Bool.and_eq_true, decide_eq_true_eq] at h
      cases f with
      | zero => cases hf; exact ⟨fd, rfl, h.1.1, h.1.2⟩
      | succ f => exact ih h.2 hf
theorem tyChk_struct (h : tyChk P t i = true) (ha : i.agg = true) : ∃ fs, P.underlying t = some (.struct fs) ∧ fldsB P fs.toList i.flds = true := by
  simp only [tyChk, Bool.and_eq_true] at h
  have h1 := h.1
  cases hd : P.underlying t with
  | none => rw [hd] at h1; cases h1
  | some d => rw [hd] at h1; cases d <;> simp_all
theorem tyChk_fld (h : tyChk P t i = true) {f o z : Nat} (hf : i.flds[f]? = some (o, z)) (ha : i.agg = true) :
    ∃ fs fd inf, P.underlying t = some (.struct fs) ∧ fs[f]? = some fd ∧ fd.offset = o ∧ P.info? fd.type = some inf ∧ inf.size = z := by
  obtain ⟨fs, h1, h2⟩ := tyChk_struct h ha
  obtain ⟨fd, h3, h4, h5⟩ := fldsB_at h2 hf
  cases hi : P.info? fd.type with
  | none => rw [hi] at h5; cases h5
  | some inf => rw [hi] at h5; exact ⟨fs, fd, inf, h1, by simpa using h3, h4, hi, by simpa using h5⟩
end

/-- Constants. -/
def cv : Value → AV
  | .int k n => .int k n
  | .bool true => .tt
  | .bool false => .ff
  | .string x => .s x
  | .slice none 0 0 => .nl
  | v => .c v
def St.ev (s : St) : Operand → AV
  | .tmp t => s.slot t
  | .const v => cv v
  | .global g => .c (.pointer (some ⟨g, 0, none⟩))
  | .func f => .fn f .nil
def St.evs (s : St) : List Operand → AV
  | [] => .nil
  | x :: l => .cons (s.ev x) (s.evs l)

/-- What comes of an operation. 'new': the block is made, and named beforehand. 'ar': an integer that may lie out of its kind's range. -/
inductive Out where
  | val (a : AV)
  | cond (p : Prop) (a : AV)
  | ar (k : IntKind) (n : Int)
  | idx (m : Int) (n : Nat) (f : Nat → AV)
  | split (x : Bool) (a b : AV)
  | new (x : Blk) (a : AV)
  | mk (m c : Int) (f : Nat → Blk) (a : AV)
  | slc (lo hi : Option Int) (n : Nat) (f : Nat → Nat → AV)
  | call (f : Nat) (args : AV)
  | bad

def inK : IntKind → Int → Prop
  | .i8, n => -128 ≤ n ∧ n ≤ 127
  | .i16, n => -32768 ≤ n ∧ n ≤ 32767
  | .i32, n => -2147483648 ≤ n ∧ n ≤ 2147483647
  | .i64, n => -9223372036854775808 ≤ n ∧ n ≤ 9223372036854775807
  | .u8, n => 0 ≤ n ∧ n ≤ 255
  | .u16, n => 0 ≤ n ∧ n ≤ 65535
  | .u32, n => 0 ≤ n ∧ n ≤ 4294967295
  | .u64, n => 0 ≤ n ∧ n ≤ 18446744073709551615
theorem wrap_in {k : IntKind} {n : Int} (h : inK k n) : k.wrap n = n := by
  cases k <;> simp only [inK] at h <;> simp only [IntKind.wrap, IntKind.bits, IntKind.signed] <;> simp <;> omega

def addA (a : AV) (o : Nat) : AV :=
  match a with
  | .op N j => .op N (j + o)
  | .oe N st k j => .oe N st k (j + o)
  | .rp f n st cell k j => .rp f n st cell k (j + o)
  | _ => .top
/-- The cells j, j + 1, .. of a table's row. -/
def rowA (cell : Nat → AV) (j : Nat) : Nat → AV
  | 0 => .nil
  | n + 1 => .cons (cell j) (rowA cell (j + 1) n)
/-- What is read out of the cell k, j of the row N. -/
def ldc (N : Nm) (cell : Nat → Nat → AV) (k j : Nat) : AV :=
  match cell k j with
  | .oi _ _ _ => .os (N.kid k j)
  | .ow _ _ _ _ => .os (N.kid k j)
  | a => a
def loadA (s : St) (agg : Bool) (size : Nat) (a : AV) : Out :=
  match a with
  | .op N j =>
    match s.blk N with
    | some (.box l) => bif agg then (bif Nat.ble (j + size) l.len then .val (.agg ((l.drop j).take size)) else .bad) else (bif Nat.blt j l.len then .val (l.nth j) else .bad)
    | _ => .bad
  | .oe N st k j =>
    match s.blk N with
    | some (.row _ c) => bif Nat.beq c.st st then (bif agg then (bif Nat.ble (j + size) st then .cond (k < c.len) (.agg (rowA (ldc N c.cell k) j size)) else .bad) else (bif Nat.blt j st then .cond (k < c.len) (ldc N c.cell k j) else .bad)) else .bad
    | _ => .bad
  | .rp _ n st cell k j => bif agg then (bif Nat.ble (j + size) st then .val (.agg (rowA (cell k) j size)) else .bad) else (bif Nat.blt j st then .val (cell k j) else .bad)
  | _ => .bad
def bitsA (op : BinOp) (k : IntKind) (a b : Int) : Int :=
  match op with
  | .and => k.wrap ((BitVec.ofInt k.bits a &&& BitVec.ofInt k.bits b).toNat : Int)
  | .or => k.wrap ((BitVec.ofInt k.bits a ||| BitVec.ofInt k.bits b).toNat : Int)
  | .xor => k.wrap ((BitVec.ofInt k.bits a ^^^ BitVec.ofInt k.bits b).toNat : Int)
  | _ => 0
def binA (op : BinOp) (x y : AV) : Out :=
  match x with
  | .int k a =>
    match y with
    | .int q b =>
      match op with
      | .shr => .cond (0 ≤ b) (.int k (a.fdiv (2 ^ min b.toNat k.bits)))
      | .shl => .cond (0 ≤ b) (.int k (k.wrap (a * 2 ^ min b.toNat k.bits)))
      | _ =>
        bif decide (k = q) then
          match op with
          | .add => .ar k (a + b)
          | .sub => .ar k (a - b)
          | .mul => .ar k (a * b)
          | .quo => .cond (b ≠ 0 ∧ inK k (a.tdiv b)) (.int k (a.tdiv b))
          | .rem => .cond (b ≠ 0) (.int k (a.tmod b))
          | .and => .val (.int k (bitsA .and k a b))
          | .or => .val (.int k (bitsA .or k a b))
          | .xor => .val (.int k (bitsA .xor k a b))
          | .eql => .val (.b (decide (a = b)))
          | .neq => .val (.b (decide (a ≠ b)))
          | .lss => .val (.b (decide (a < b)))
          | .leq => .val (.b (decide (a ≤ b)))
          | .gtr => .val (.b (decide (b < a)))
          | .geq => .val (.b (decide (b ≤ a)))
          | _ => .bad
        else .bad
    | _ => .bad
  | .s a =>
    match y with
    | .s b =>
      match op with
      | .add => .cond (a.size + b.size ≤ 9223372036854775807) (.s (a ++ b))
      | .eql => .val (.b (a.toList == b.toList))
      | .neq => .val (.b !(a.toList == b.toList))
      | _ => .bad
    | _ => .bad
  | _ => .bad
def notA (x : AV) : Out :=
  match x with
  | .tt => .val .ff
  | .ff => .val .tt
  | .b x => .val (.b (!x))
  | _ => .bad
def Mc.len : Mc → Nat
  | .ints _ es => es.length
  | .bools es => es.length
/-- kind: 0: slices, 1: maps, 2: strings. -/
def lenA (s : St) (kind : Nat) (x : AV) : Out :=
  match x with
  | .ri _ _ xs => bif Nat.beq kind 0 then .val (.i xs.length) else .bad
  | .rs _ n _ _ => bif Nat.beq kind 0 then .val (.i n) else .bad
  | .nl => bif Nat.beq kind 0 then .val (.i 0) else .bad
  | .e0 => bif Nat.beq kind 0 then .val (.i 0) else .bad
  | .os N => bif Nat.beq kind 0 then (match s.blk N with | some (.row _ c) => .val (.i c.len) | _ => .bad) else .bad
  | .om N => bif Nat.beq kind 1 then (match s.blk N with | some (.mp _ m) => .val (.i m.len) | _ => .bad) else .bad
  | .s b => bif Nat.beq kind 2 then .val (.i b.size) else .bad
  | _ => .bad
def idxA (s : St) (z : Nat) (x ix : AV) : Out :=
  match ix with
  | .int _ m =>
    match x with
    | .ri f q xs => bif Nat.beq z 1 then .idx m xs.length fun k => .rp f xs.length 1 (ci q xs) k 0 else .bad
    | .rs f n st cell => bif Nat.beq z st then .idx m n fun k => .rp f n st cell k 0 else .bad
    | .os N => match s.blk N with | some (.row _ c) => bif Nat.beq z c.st then .idx m c.len fun k => .oe N c.st k 0 else .bad | _ => .bad
    | _ => .bad
  | _ => .bad
/-- Fields filled into a struct's zero. -/
def fillA (flds : List (Nat × Nat)) (l : AV) : List (Nat × AV) → Option AV
  | [] => some l
  | (i, a) :: rest =>
    match flds[i]? with
    | some (o, z) => bif a.flat && Nat.beq a.cells.len z && Nat.ble (o + z) l.len then fillA flds (l.splice o a.cells) rest else none
    | none => none
def intsOf (k : IntKind) : AV → Option (List Int)
  | .nil => some []
  | .cons (.int q n) l => bif decide (q = k) then (match intsOf k l with | some xs => some (n :: xs) | none => none) else none
  | _ => none
/-- The parts of a literal, each at its place. -/
def partsA (s : St) (z : Nat) : Nat → List (Nat × Operand) → Option AV
  | _, [] => some .nil
  | k, (i, x) :: rest => bif Nat.beq i k && (s.ev x).flat && Nat.beq (s.ev x).cells.len z then (match partsA s z (k + 1) rest with | some l => some ((s.ev x).cells.app l) | none => none) else none
/-- A row that holds these cells; 'zero': the elements' zero. -/
def ctOf (zero : AV) (z n : Nat) (l : AV) : Ct :=
  match zero with
  | .cons (.int k _) .nil => (match intsOf k l with | some xs => .ints k xs | none => .tab n z fun k j => l.nth (k * z + j))
  | _ => .tab n z fun k j => l.nth (k * z + j)
def zeroCt (zero : AV) (z n : Nat) : Ct :=
  match zero with
  | .cons (.int k m) .nil => .ints k (List.replicate n m)
  | .cons .ff .nil => .bools (List.replicate n false)
  | _ => .tab n z fun _ j => zero.nth j
def bndA : Option AV → Option (Option Int)
  | none => some none
  | some (.int _ m) => some (some m)
  | _ => none
def sliceA (z : Nat) (x : AV) (lo hi : Option AV) : Out :=
  match bndA lo, bndA hi with
  | some l, some h =>
    match x with
    | .ri f q xs => bif Nat.beq z 1 then .slc l h xs.length fun l h => .ri f q ((xs.take h).drop l) else .bad
    | .rs f n st cell => bif Nat.beq z st then .slc l h n fun l h => .rs f (h - l) st fun k j => cell (k + l) j else .bad
    | _ => .bad
  | _, _ => .bad
/-- x[:0:0] -/
def slice0A (s : St) (x : AV) (lo : Option AV) (hi mx : AV) : Out :=
  match lo, hi, mx with
  | none, .int _ h, .int _ m =>
    bif decide (h = 0) && decide (m = 0) then
      (match x with
       | .ri _ _ _ => .val .e0
       | .rs _ _ _ _ => .val .e0
       | .nl => .val .e0
       | .e0 => .val .e0
       | .os N => (match s.blk N with | some (.row _ _) => .val .e0 | _ => .bad)
       | _ => .bad)
    else .bad
  | _, _, _ => .bad
/-- The map's zero element as what it would hold. -/
def mpOf (zero : AV) : Option Mc :=
  match zero with
  | .cons (.int k n) .nil => bif decide (n = 0) then some (.ints k []) else none
  | .cons .ff .nil => some (.bools [])
  | _ => none
def mfind {α : Type} : List (Int × α) → Int → Option α
  | [], _ => none
  | p :: l, x => if x = p.1 then some p.2 else mfind l x
def mgetI (l : List (Int × Int)) (x : Int) : Int := (mfind l x).getD 0
def mgetB (l : List (Int × Bool)) (x : Int) : Bool := (mfind l x).getD false
def mhas {α : Type} (l : List (Int × α)) (x : Int) : Bool := (mfind l x).isSome
def mset {α : Type} : List (Int × α) → Int → α → List (Int × α)
  | [], x, v => [(x, v)]
  | p :: l, x, v => if x = p.1 then (x, v) :: l else p :: mset l x v
def lkA (s : St) (t : Nat) (z : Option Mc) (x ix : AV) (ok : Bool) : Out :=
  match x, ix with
  | .om N, .int .i64 n =>
    (match s.blk N with
     | some (.mp t' m) =>
       bif Nat.beq t' t then
         (match m, z with
          | .ints k es, some (.ints k' _) => bif decide (k' = k) then .val (bif ok then .tup (.cons (.int k (mgetI es n)) (.cons (.b (mhas es n)) .nil)) else .int k (mgetI es n)) else .bad
          | .bools es, some (.bools _) => .val (bif ok then .tup (.cons (.b (mgetB es n)) (.cons (.b (mhas es n)) .nil)) else .b (mgetB es n))
          | _, _ => .bad)
       else .bad
     | _ => .bad)
  | _, _ => .bad
def q (τ : List (Nat × TyI)) (L : Nat) (s : St) (o : Op) : Out :=
  match o with
  | .move x => .val (s.ev x)
  | .assign x => .val (s.ev x)
  | .pick c a b => match s.ev c with | .tt => .val (s.ev a) | .ff => .val (s.ev b) | .b x => .split x (s.ev a) (s.ev b) | _ => .bad
  | .alloc t => match ty? τ t with | some i => .new (.box i.zero) (.op (rt L) 0) | none => .bad
  | .box _ x => bif (s.ev x).flat then .new (.box (s.ev x).cells) (.op (rt L) 0) else .bad
  | .load t x => match ty? τ t with | some i => loadA s i.agg i.size (s.ev x) | none => .bad
  | .nilCheck x => match s.ev x with | .op M j => .val (.op M j) | .oe N st k j => .val (.oe N st k j) | .rp f n st cell k j => .val (.rp f n st cell k j) | _ => .bad
  | .fieldAddr t x f =>
    match ty? τ t with
    | some i => bif i.agg then (match i.flds[f]? with | some (o, z) => bif Nat.blt 0 z then (match addA (s.ev x) o with | .top => .bad | a => .val a) else .bad | none => .bad) else .bad
    | none => .bad
  | .indexAddr t x ix => match ty? τ t with | some i => (match ty? τ i.elem with | some e => bif Nat.blt 0 i.elem then idxA s e.size (s.ev x) (s.ev ix) else .bad | none => .bad) | none => .bad
  | .binOp op _ x y _ => binA op (s.ev x) (s.ev y)
  | .unOp .not _ x => notA (s.ev x)
  | .convert src dst x => match ty? τ src, ty? τ dst, s.ev x with | some _, some i, .int _ n => (match i.ik with | some k => .ar k n | none => .bad) | _, _, _ => .bad
  | .extract x n => match s.ev x with | .tup l => bif Nat.blt n l.len then .val (l.nth n) else .bad | _ => .bad
  | .build t parts => match ty? τ t with | some i => bif i.agg then (match fillA i.flds i.zero (parts.toList.map fun p => (p.1, s.ev p.2)) with | some l => .val (.agg l) | none => .bad) else .bad | none => .bad
  | .buildSlice t len parts =>
    match ty? τ t with
    | some i =>
      bif Nat.blt 0 i.elem then
        (match ty? τ i.elem with
         | some e => bif Nat.blt 0 e.size && Nat.ble (len * e.size) 16777216 then (match partsA s e.size 0 parts.toList with | some l => bif Nat.beq l.len (len * e.size) then .new (.row i.elem (ctOf e.zero e.size len l)) (.os (rt L)) else .bad | none => .bad) else .bad
         | none => .bad)
      else .bad
    | none => .bad
  | .makeSlice t l c =>
    match ty? τ t with
    | some i =>
      bif Nat.blt 0 i.elem then
        (match ty? τ i.elem with
         | some e => bif Nat.blt 0 e.size && Nat.ble e.bytes 256 then (match s.ev l, s.ev c with | .int _ m, .int _ m' => .mk m m' (fun n => .row i.elem (zeroCt e.zero e.size n)) (.os (rt L)) | _, _ => .bad) else .bad
         | none => .bad)
      else .bad
    | none => .bad
  | .makeMap t none => match ty? τ t with | some i => (match i.mp with | some (k, e) => (match ty? τ k, ty? τ e with | some ki, some ei => bif decide (ki.ik = some .i64) && !ei.agg then (match mpOf ei.zero with | some m => .new (.mp t m) (.om (rt L)) | none => .bad) else .bad | _, _ => .bad) | none => .bad) | none => .bad
  | .lookup t x ix ok => match ty? τ t with | some i => (match i.mp with | some (k, e) => (match ty? τ k, ty? τ e with | some ki, some ei => bif decide (ki.ik = some .i64) && !ei.agg then lkA s t (mpOf ei.zero) (s.ev x) (s.ev ix) ok else .bad | _, _ => .bad) | none => .bad) | none => .bad
  | .slice t x lo hi none => match ty? τ t with | some i => (match ty? τ i.elem with | some e => bif Nat.blt 0 i.elem then sliceA e.size (s.ev x) (lo.map s.ev) (hi.map s.ev) else .bad | none => .bad) | none => .bad
  | .slice t x lo (some hi) (some mx) => match ty? τ t with | some i => (match ty? τ i.elem with | some e => bif Nat.blt 0 i.elem then slice0A s (s.ev x) (lo.map s.ev) (s.ev hi) (s.ev mx) else .bad | none => .bad) | none => .bad
  | .makeFunc (.func f) first caps => bif first.isEmpty then .val (.fn f (s.evs caps.toList)) else .bad
  | .call c =>
    match c.callee with
    | .builtin .len => match c.args.toList, c.argTypes.toList with | [x], [t] => (match ty? τ t with | some i => lenA s (bif Nat.blt 0 i.elem then 0 else bif i.mp.isSome then 1 else 3) (s.ev x) | none => .bad) | _, _ => .bad
    | .builtin .min => match c.args.toList with | [x, y] => (match s.ev x, s.ev y with | .int .i64 a, .int .i64 b => .val (.i (min a b)) | _, _ => .bad) | _ => .bad
    | .builtin .max => match c.args.toList with | [x, y] => (match s.ev x, s.ev y with | .int .i64 a, .int .i64 b => .val (.i (max a b)) | _, _ => .bad) | _ => .bad
    | .value f => match s.ev f with | .fn g caps => .call g ((s.evs c.args.toList).app caps) | _ => .bad
    | _ => .bad
  | _ => .bad

/-- What the outcome says: the value, and the block that was made. -/
inductive Yields : Out → AV → Option Blk → Prop where
  | val {a} : Yields (.val a) a none
  | cond {p a} : p → Yields (.cond p a) a none
  | ari {k n} : inK k n → Yields (.ar k n) (.int k n) none
  | arw {k n} : Yields (.ar k n) (.int k (k.wrap n)) none
  | idx {m : Int} {n k : Nat} {f} : m = (k : Int) → k < n → Yields (.idx m n f) (f k) none
  | splitT {x a b} : x = true → Yields (.split x a b) a none
  | splitF {x a b} : x = false → Yields (.split x a b) b none
  | new {x a} : Yields (.new x a) a (some x)
  | mk {m c : Int} {f a} {n k : Nat} : m = (n : Int) → c = (k : Int) → n ≤ k → k ≤ 274877906944 → Yields (.mk m c f a) a (some (f n))
  | slc {lo hi : Option Int} {n l h : Nat} {f} : (lo.getD 0 = (l : Int)) → (hi.getD n = (h : Int)) → l ≤ h → h ≤ n → Yields (.slc lo hi n f) (f l h) none
end Go.Proofs.Ytbncmiglhjfcdaa
