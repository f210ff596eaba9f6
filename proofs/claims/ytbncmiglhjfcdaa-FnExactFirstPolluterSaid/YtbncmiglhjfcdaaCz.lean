/-
  Loops, and the pieces of a walk.
-/
import Derived.Test.YtbncmiglhjfcdaaDd
namespace Go.Proofs.Ytbncmiglhjfcdaa
open Go.RowKit
set_option linter.unusedVariables false

/-- The slots that a piece of code writes. -/
def dstsO : List Oper → List Nat
  | [] => []
  | o :: l => (match o.dst with | some d => d :: dstsO l | none => dstsO l)
def dsts : Code → List Nat
  | .region _ ops _ => dstsO ops.toList
  | .seq a b => dsts a ++ dsts b
  | .cond _ a b => dsts a ++ dsts b
  | .block _ c => dsts c
  | .loop c => dsts c
  | .scope c => dsts c
  | .rangeFunc _ _ a b => dsts a ++ dsts b
  | _ => []
def memN (L : Nat) : List Nat → Bool
  | [] => false
  | x :: l => Nat.beq x L || memN L l
def keepSl (kl : List Nat) : List Nat → List (Nat × AV) → List (Nat × AV)
  | _, [] => []
  | wr, p :: l => bif memN p.1 wr then keepSl kl wr l else (p.1, p.2.kill (fun N => memN N.r kl)) :: keepSl kl (p.1 :: wr) l
def keepBl (kl : List Nat) : List Nat → List (Nat × Option Blk) → List (Nat × Option Blk)
  | _, [] => []
  | wr, p :: l => bif memN p.1 wr then keepBl kl wr l else (match p.2 with | some x => (p.1, some (x.kill (fun N => memN N.r kl))) :: keepBl kl (p.1 :: wr) l | none => keepBl kl (p.1 :: wr) l)
/-- The state at a loop's head: wr, the slots that it writes; kl, the blocks that it gives away or makes anew; l, b: what is told of slots and blocks. -/
def St.hd (s : St) (wr : List Nat) (kl : List Nat) (l : List (Nat × AV)) (b : List (Nat × Option Blk)) : St :=
  ⟨l ++ keepSl (kl ++ wr.map nm) (l.map (·.1) ++ wr) s.slots, b ++ keepBl (kl ++ wr.map nm) (b.map (·.1) ++ (kl ++ wr.map nm)) s.store, s.n⟩
theorem loopI {P : Program} {τ : List (Nat × TyI)} (hτ : TyOk P τ) {c : Code} {K : Exit → St → Prop} {s : St} {ι : Type} (kl : List Nat) (l : ι → List (Nat × AV)) (b : ι → List (Nat × Option Blk)) (p : ι → Prop) (μ : ι → Nat) (i0 : ι) (h0 : p i0) (hs : (s.hd (dsts c) kl (l i0) (b i0)).force fun t => s.Le t)
    (round : ∀ i, p i → Nx ((s.hd (dsts c) kl (l i) (b i)).force fun t => vc P τ c (seqK (fun s' => ∃ i', p i' ∧ μ i' < μ i ∧ (s.hd (dsts c) kl (l i') (b i')).force fun t' => s'.Le t') K) t)) : VC P (.loop c) K s := by
  simp only [forceS_eq] at hs round
  exact VC_loopI hτ (fun i => s.hd (dsts c) kl (l i) (b i)) p μ i0 h0 hs round

theorem splitD {c : Prop} [Decidable c] {p q : Prop} (h1 : c → Nx p) (h2 : ¬c → Nx q) : (decide c = true → Nx p) ∧ (decide c = false → Nx q) := ⟨fun h => h1 (of_decide_eq_true h), fun h => h2 (of_decide_eq_false h)⟩
theorem splitB {c : Bool} {p q : Prop} (h1 : c = true → Nx p) (h2 : c = false → Nx q) : (c = true → Nx p) ∧ (c = false → Nx q) := ⟨h1, h2⟩
/-- Integers. -/
abbrev AV.I (n : Int) : AV := .int .i64 n
theorem ar_in {k : IntKind} {n : Int} {p q : Prop} (h : inK k n) (hp : Nx p) : (inK k n ∧ Nx p) ∨ q := .inl ⟨h, hp⟩
theorem idxNat {n k : Nat} {p : Nat → Prop} (h : k < n) (hp : Nx (p k)) : ∃ k' : Nat, (k : Int) = (k' : Int) ∧ k' < n ∧ Nx (p k') := ⟨k, rfl, h, hp⟩
theorem idxInt {n : Nat} {m : Int} {p : Nat → Prop} (k : Nat) (hm : m = (k : Int)) (h : k < n) (hp : Nx (p k)) : ∃ k' : Nat, m = (k' : Int) ∧ k' < n ∧ Nx (p k') := ⟨k, hm, h, hp⟩

theorem idxPred {n i : Nat} {p : Nat → Prop} (h0 : 0 < i) (h : i - 1 < n) (hp : Nx (p (i - 1))) : ∃ k' : Nat, (i : Int) - 1 = (k' : Int) ∧ k' < n ∧ Nx (p k') := ⟨i - 1, by omega, h, hp⟩
theorem idxSucc {n i : Nat} {p : Nat → Prop} (h : i + 1 < n) (hp : Nx (p (i + 1))) : ∃ k' : Nat, (i : Int) + 1 = (k' : Int) ∧ k' < n ∧ Nx (p k') := ⟨i + 1, by omega, h, hp⟩
theorem idxTo {n : Nat} {m : Int} {p : Nat → Prop} (h0 : 0 ≤ m) (h : m < n) (hp : Nx (p m.toNat)) : ∃ k' : Nat, m = (k' : Int) ∧ k' < n ∧ Nx (p k') := ⟨m.toNat, by omega, by omega, hp⟩
theorem nilQ {c p q : Prop} (h1 : c → Nx p) (h2 : Nx q) : (c → Nx p) ∧ Nx q := ⟨h1, h2⟩
theorem lenR : (∀ {α : Type} (a b : List α), (a ++ b).length = a.length + b.length) ∧ (∀ {α : Type} (i : Nat) (a : List α), (a.take i).length = min i a.length) ∧ (∀ {α : Type} (i : Nat) (a : List α), (a.drop i).length = a.length - i) ∧
    (∀ {α : Type} (n : Nat) (x : α), (List.replicate n x).length = n) ∧ (∀ {α β : Type} (f : α → β) (a : List α), (a.map f).length = a.length) ∧ (∀ {α : Type} (a : List α) (i : Nat) (x : α), (a.set i x).length = a.length) ∧ (∀ {α : Type} (x : α) (a : List α), (x :: a).length = a.length + 1) ∧
    (∀ {α : Type}, ([] : List α).length = 0) ∧ (∀ n : Nat, (List.range n).length = n) ∧ (∀ (k : IntKind) (xs : List Int), (Ct.ints k xs).len = xs.length) ∧ (∀ xs : List Bool, (Ct.bools xs).len = xs.length) ∧ (∀ (n st : Nat) (c : Nat → Nat → AV), (Ct.tab n st c).len = n) :=
  ⟨fun _ _ => List.length_append, fun _ _ => List.length_take, fun _ _ => List.length_drop, fun _ _ => List.length_replicate, fun _ _ => List.length_map _, fun _ _ _ => List.length_set, fun _ _ => List.length_cons, List.length_nil, fun _ => List.length_range, fun _ _ => rfl, fun _ => rfl, fun _ _ _ => rfl⟩
theorem ar64 {n : Int} {p q : Prop} (h : -9223372036854775808 ≤ n ∧ n ≤ 9223372036854775807) (hp : Nx p) : (inK .i64 n ∧ Nx p) ∨ q := .inl ⟨h, hp⟩
def allJ (p : Nat → Prop) : Nat → Prop
  | 0 => True
  | n + 1 => allJ p n ∧ p n
theorem allJ_at {p : Nat → Prop} : ∀ {n j : Nat}, allJ p n → j < n → p j
  | n + 1, j, h, hj => by
    by_cases e : j = n
    · subst e; exact h.2
    · exact allJ_at h.1 (by omega)
theorem cellB {n : Nat} {p : Nat → Prop} (h : allJ p n) : ∀ i, i < n → p i := fun i hi => allJ_at h hi
theorem cellJ {n st : Nat} {p : Nat → Nat → Prop} (h : ∀ i, i < n → allJ (p i) st) : ∀ i j, i < n → j < st → p i j := fun i j hi hj => allJ_at (h i hi) hj
theorem condN {p q : Prop} (hp : p) (h : Nx q) : p ∧ Nx q := ⟨hp, h⟩
theorem mkNat {n k : Nat} {p : Nat → Prop} (h1 : n ≤ k) (h2 : k ≤ 274877906944) (hp : Nx (p n)) : ∃ n' k' : Nat, (n : Int) = (n' : Int) ∧ (k : Int) = (k' : Int) ∧ n' ≤ k' ∧ k' ≤ 274877906944 ∧ Nx (p n') := ⟨n, k, rfl, rfl, h1, h2, hp⟩
theorem avle_int {s : St} {x : AV} {cl : Bool} {k : IntKind} {n : Int} (h : x = .int k n) : avle s x cl (.int k n) := by subst h; exact ⟨rfl, rfl⟩
theorem avle_b {s : St} {x : AV} {cl : Bool} {n : Bool} (h : x = .b n) : avle s x cl (.b n) := by subst h; exact rfl
theorem avle_s {s : St} {x : AV} {cl : Bool} {n : ByteArray} (h : x = .s n) : avle s x cl (.s n) := by subst h; exact rfl
theorem tab_upd {k i : Nat} {a b c : AV} (h1 : k = i → a = c) (h2 : k ≠ i → b = c) : (bif true && true && Nat.beq k i then a else b) = c := by
  by_cases e : k = i
  · rw [← h1 e, e, Nat.beq_refl]; rfl
  · rw [← h2 e, beq_ne e]; rfl
/-- The first i elements; the zero element from there on. -/
def upTo {X : Type} (z : X) (xs : List X) (i k : Nat) : X := if k < i then xs.getD k z else z
theorem upTo_zero {X : Type} {z : X} {xs : List X} {k : Nat} : upTo z xs 0 k = z := by simp [upTo]
theorem upTo_self {X : Type} {z : X} {xs : List X} {k : Nat} : upTo z xs (k + 1) k = xs.getD k z := by simp [upTo]
theorem upTo_ne {X : Type} {z : X} {xs : List X} {i k : Nat} (h : k ≠ i) : upTo z xs (i + 1) k = upTo z xs i k := by
  unfold upTo
  by_cases h1 : k < i
  · rw [if_pos h1, if_pos (by omega)]
  · rw [if_neg h1, if_neg (by omega)]
theorem upTo_all {X : Type} {z : X} {xs : List X} {i k : Nat} (h : xs.length ≤ i) : upTo z xs i k = xs.getD k z := by
  unfold upTo
  split
  · rfl
  · rw [List.getD_eq_getElem?_getD, List.getElem?_eq_none (by omega)]; rfl
theorem cell1 {n : Nat} {p : Nat → Nat → Prop} (h : ∀ i, i < n → p i 0) : ∀ i j, i < n → j < 1 → p i j := fun i j hi hj => by
  obtain rfl : j = 0 := by omega
  exact h i hi
theorem cell2 {n : Nat} {p : Nat → Nat → Prop} (h : ∀ i, i < n → p i 0 ∧ p i 1) : ∀ i j, i < n → j < 2 → p i j := fun i j hi hj => by
  obtain rfl | rfl : j = 0 ∨ j = 1 := by omega
  · exact (h i hi).1
  · exact (h i hi).2
theorem cell3 {n : Nat} {p : Nat → Nat → Prop} (h : ∀ i, i < n → p i 0 ∧ p i 1 ∧ p i 2) : ∀ i j, i < n → j < 3 → p i j := fun i j hi hj => by
  obtain rfl | rfl | rfl : j = 0 ∨ j = 1 ∨ j = 2 := by omega
  · exact (h i hi).1
  · exact (h i hi).2.1
  · exact (h i hi).2.2
theorem cell4 {n : Nat} {p : Nat → Nat → Prop} (h : ∀ i, i < n → p i 0 ∧ p i 1 ∧ p i 2 ∧ p i 3) : ∀ i j, i < n → j < 4 → p i j := fun i j hi hj => by
  obtain rfl | rfl | rfl | rfl : j = 0 ∨ j = 1 ∨ j = 2 ∨ j = 3 := by omega
  · exact (h i hi).1
  · exact (h i hi).2.1
  · exact (h i hi).2.2.1
  · exact (h i hi).2.2.2
theorem ext_getD {X : Type} {z : X} {xs ys : List X} (hl : xs.length = ys.length) (h : ∀ k, k < xs.length → xs.getD k z = ys.getD k z) : xs = ys := by
  refine List.ext_getElem hl (fun k h1 h2 => ?_)
  have := h k h1
  rw [List.getD_eq_getElem?_getD, List.getD_eq_getElem?_getD, List.getElem?_eq_getElem h1, List.getElem?_eq_getElem h2] at this
  exact this
end Go.Proofs.Ytbncmiglhjfcdaa
