/-
  Joined: Cz Da Db Dc Dd De Df Base Open Mem Open2 Ea.
-/
import Derived.Test.YtaopjdeigpiejaaDoorVB
import Derived.Orders
import Derived.Test.YtaopjdeigpiejaaDoorRows
import Derived.WalkKit
import Derived.ProofKit
import Derived.OpenShut
import Derived.Carry
import Derived.Below
import Derived.ChangeSame
import Derived.Deep.QuietTactic
import Derived.BigQuiet
import Derived.Lib.Hide
import Derived.Outline
import Derived.Deep.Draws
import Derived.Maps.AppendAt
import Derived.Deep.AppendLies
import Derived.OwnWalk
import Derived.Laws.OwnMore
import Derived.RegionTactic
import Derived.Laws.Rows
import Derived.Deep.DeepCutAuto
import Derived.Deep.Slices
namespace Go.Proofs.YtaopjdeigpiejaaDoor
open Go.RowKit
set_option linter.unusedVariables false

/-- The slots that a piece of code writes. -/
def dstsO : List Oper → List Nat
  | [] => []
  | o :: l => (match o.dst with | some d => d :: dstsO l | none => dstsO l)
def dsts : Code → List Nat
  | .region _ ops _ => dstsO ops.toList
  | .seq a b => dsts a ++ dsts b
  | .cond _ a b => dsts a ++ dsts b
  | .block _ c => dsts c
  | .loop c => dsts c
  | .scope c => dsts c
  | .rangeFunc _ _ a b => dsts a ++ dsts b
  | _ => []
def memN (L : Nat) : List Nat → Bool
  | [] => false
  | x :: l => Nat.beq x L || memN L l
def keepSl (kl : List Nat) : List Nat → List (Nat × AV) → List (Nat × AV)
  | _, [] => []
  | wr, p :: l => bif memN p.1 wr then keepSl kl wr l else (p.1, p.2.kill (fun N => memN N.r kl)) :: keepSl kl (p.1 :: wr) l
def keepBl (kl : List Nat) : List Nat → List (Nat × Option Blk) → List (Nat × Option Blk)
  | _, [] => []
  | wr, p :: l => bif memN p.1 wr then keepBl kl wr l else (match p.2 with | some x => (p.1, some (x.kill (fun N => memN N.r kl))) :: keepBl kl (p.1 :: wr) l | none => keepBl kl (p.1 :: wr) l)
/-- The state at a loop's head: wr, the slots that it writes; kl, the blocks that it gives away or makes anew; l, b: what is told of slots and blocks. -/
def St.hd (s : St) (wr : List Nat) (kl : List Nat) (l : List (Nat × AV)) (b : List (Nat × Option Blk)) : St :=
  ⟨l ++ keepSl (kl ++ wr.map nm) (l.map (·.1) ++ wr) s.slots, b ++ keepBl (kl ++ wr.map nm) (b.map (·.1) ++ (kl ++ wr.map nm)) s.store, s.n⟩
theorem loopI {P : Program} {τ : List (Nat × TyI)} (hτ : TyOk P τ) {c : Code} {K : Exit → St → Prop} {s : St} {ι : Type} (kl : List Nat) (l : ι → List (Nat × AV)) (b : ι → List (Nat × Option Blk)) (p : ι → Prop) (μ : ι → Nat) (i0 : ι) (h0 : p i0) (hs : (s.hd (dsts c) kl (l i0) (b i0)).force fun t => s.Le t)
    (round : ∀ i, p i → Nx ((s.hd (dsts c) kl (l i) (b i)).force fun t => vc P τ c (seqK (fun s' => ∃ i', p i' ∧ μ i' < μ i ∧ (s.hd (dsts c) kl (l i') (b i')).force fun t' => s'.Le t') K) t)) : VC P (.loop c) K s := by
  simp only [forceS_eq] at hs round
  exact VC_loopI hτ (fun i => s.hd (dsts c) kl (l i) (b i)) p μ i0 h0 hs round

theorem splitD {c : Prop} [Decidable c] {p q : Prop} (h1 : c → Nx p) (h2 : ¬c → Nx q) : (decide c = true → Nx p) ∧ (decide c = false → Nx q) := ⟨fun h => h1 (of_decide_eq_true h), fun h => h2 (of_decide_eq_false h)⟩
theorem splitB {c : Bool} {p q : Prop} (h1 : c = true → Nx p) (h2 : c = false → Nx q) : (c = true → Nx p) ∧ (c = false → Nx q) := ⟨h1, h2⟩
/-- Integers. -/
abbrev AV.I (n : Int) : AV := .int .i64 n
theorem ar_in {k : IntKind} {n : Int} {p q : Prop} (h : inK k n) (hp : Nx p) : (inK k n ∧ Nx p) ∨ q := .inl ⟨h, hp⟩
theorem idxNat {n k : Nat} {p : Nat → Prop} (h : k < n) (hp : Nx (p k)) : ∃ k' : Nat, (k : Int) = (k' : Int) ∧ k' < n ∧ Nx (p k') := ⟨k, rfl, h, hp⟩
theorem idxInt {n : Nat} {m : Int} {p : Nat → Prop} (k : Nat) (hm : m = (k : Int)) (h : k < n) (hp : Nx (p k)) : ∃ k' : Nat, m = (k' : Int) ∧ k' < n ∧ Nx (p k') := ⟨k, hm, h, hp⟩

theorem idxPred {n i : Nat} {p : Nat → Prop} (h0 : 0 < i) (h : i - 1 < n) (hp : Nx (p (i - 1))) : ∃ k' : Nat, (i : Int) - 1 = (k' : Int) ∧ k' < n ∧ Nx (p k') := ⟨i - 1, by omega, h, hp⟩
theorem idxSucc {n i : Nat} {p : Nat → Prop} (h : i + 1 < n) (hp : Nx (p (i + 1))) : ∃ k' : Nat, (i : Int) + 1 = (k' : Int) ∧ k' < n ∧ Nx (p k') := ⟨i + 1, by omega, h, hp⟩
theorem idxTo {n : Nat} {m : Int} {p : Nat → Prop} (h0 : 0 ≤ m) (h : m < n) (hp : Nx (p m.toNat)) : ∃ k' : Nat, m = (k' : Int) ∧ k' < n ∧ Nx (p k') := ⟨m.toNat, by omega, by omega, hp⟩
theorem nilQ {c p q : Prop} (h1 : c → Nx p) (h2 : Nx q) : (c → Nx p) ∧ Nx q := ⟨h1, h2⟩
theorem lenR : (∀ {α : Type} (a b : List α), (a ++ b).length = a.length + b.length) ∧ (∀ {α : Type} (i : Nat) (a : List α), (a.take i).length = min i a.length) ∧ (∀ {α : Type} (i : Nat) (a : List α), (a.drop i).length = a.length - i) ∧
    (∀ {α : Type} (n : Nat) (x : α), (List.replicate n x).length = n) ∧ (∀ {α β : Type} (f : α → β) (a : List α), (a.map f).length = a.length) ∧ (∀ {α : Type} (a : List α) (i : Nat) (x : α), (a.set i x).length = a.length) ∧ (∀ {α : Type} (x : α) (a : List α), (x :: a).length = a.length + 1) ∧
    (∀ {α : Type}, ([] : List α).length = 0) ∧ (∀ n : Nat, (List.range n).length = n) ∧ (∀ (k : IntKind) (xs : List Int), (Ct.ints k xs).len = xs.length) ∧ (∀ xs : List Bool, (Ct.bools xs).len = xs.length) ∧ (∀ (n st : Nat) (c : Nat → Nat → AV), (Ct.tab n st c).len = n) :=
  ⟨fun _ _ => List.length_append, fun _ _ => List.length_take, fun _ _ => List.length_drop, fun _ _ => List.length_replicate, fun _ _ => List.length_map _, fun _ _ _ => List.length_set, fun _ _ => List.length_cons, List.length_nil, fun _ => List.length_range, fun _ _ => rfl, fun _ => rfl, fun _ _ _ => rfl⟩
theorem ar64 {n : Int} {p q : Prop} (h : -9223372036854775808 ≤ n ∧ n ≤ 9223372036854775807) (hp : Nx p) : (inK .i64 n ∧ Nx p) ∨ q := .inl ⟨h, hp⟩
def allJ (p : Nat → Prop) : Nat → Prop
  | 0 => True
  | n + 1 => allJ p n ∧ p n
theorem allJ_at {p : Nat → Prop} : ∀ {n j : Nat}, allJ p n → j < n → p j
  | n + 1, j, h, hj => by
    by_cases e : j = n
    · subst e; exact h.2
    · exact allJ_at h.1 (by omega)
theorem cellB {n : Nat} {p : Nat → Prop} (h : allJ p n) : ∀ i, i < n → p i := fun i hi => allJ_at h hi
theorem cellJ {n st : Nat} {p : Nat → Nat → Prop} (h : ∀ i, i < n → allJ (p i) st) : ∀ i j, i < n → j < st → p i j := fun i j hi hj => allJ_at (h i hi) hj
theorem condN {p q : Prop} (hp : p) (h : Nx q) : p ∧ Nx q := ⟨hp, h⟩
theorem mkNat {n k : Nat} {p : Nat → Prop} (h1 : n ≤ k) (h2 : k ≤ 274877906944) (hp : Nx (p n)) : ∃ n' k' : Nat, (n : Int) = (n' : Int) ∧ (k : Int) = (k' : Int) ∧ n' ≤ k' ∧ k' ≤ 274877906944 ∧ Nx (p n') := ⟨n, k, rfl, rfl, h1, h2, hp⟩
theorem avle_int {s : St} {x : AV} {cl : Bool} {k : IntKind} {n : Int} (h : x = .int k n) : avle s x cl (.int k n) := by subst h; exact ⟨rfl, rfl⟩
theorem avle_b {s : St} {x : AV} {cl : Bool} {n : Bool} (h : x = .b n) : avle s x cl (.b n) := by subst h; exact rfl
theorem avle_s {s : St} {x : AV} {cl : Bool} {n : ByteArray} (h : x = .s n) : avle s x cl (.s n) := by subst h; exact rfl
theorem tab_upd {k i : Nat} {a b c : AV} (h1 : k = i → a = c) (h2 : k ≠ i → b = c) : (bif true && true && Nat.beq k i then a else b) = c := by
  by_cases e : k = i
  · rw [← h1 e, e, Nat.beq_refl]; rfl
  · rw [← h2 e, beq_ne e]; rfl
/-- The first i elements; the zero element from there on. -/
def upTo {X : Type} (z : X) (xs : List X) (i k : Nat) : X := if k < i then xs.getD k z else z
theorem upTo_zero {X : Type} {z : X} {xs : List X} {k : Nat} : upTo z xs 0 k = z := by simp [upTo]
theorem upTo_self {X : Type} {z : X} {xs : List X} {k : Nat} : upTo z xs (k + 1) k = xs.getD k z := by simp [upTo]
theorem upTo_ne {X : Type} {z : X} {xs : List X} {i k : Nat} (h : k ≠ i) : upTo z xs (i + 1) k = upTo z xs i k := by
  unfold upTo
  by_cases h1 : k < i
  · rw [if_pos h1, if_pos (by omega)]
  · rw [if_neg h1, if_neg (by omega)]
theorem upTo_all {X : Type} {z : X} {xs : List X} {i k : Nat} (h : xs.length ≤ i) : upTo z xs i k = xs.getD k z := by
  unfold upTo
  split
  · rfl
  · rw [List.getD_eq_getElem?_getD, List.getElem?_eq_none (by omega)]; rfl
theorem cell1 {n : Nat} {p : Nat → Nat → Prop} (h : ∀ i, i < n → p i 0) : ∀ i j, i < n → j < 1 → p i j := fun i j hi hj => by
  obtain rfl : j = 0 := by omega
  exact h i hi
theorem cell2 {n : Nat} {p : Nat → Nat → Prop} (h : ∀ i, i < n → p i 0 ∧ p i 1) : ∀ i j, i < n → j < 2 → p i j := fun i j hi hj => by
  obtain rfl | rfl : j = 0 ∨ j = 1 := by omega
  · exact (h i hi).1
  · exact (h i hi).2
theorem cell3 {n : Nat} {p : Nat → Nat → Prop} (h : ∀ i, i < n → p i 0 ∧ p i 1 ∧ p i 2) : ∀ i j, i < n → j < 3 → p i j := fun i j hi hj => by
  obtain rfl | rfl | rfl : j = 0 ∨ j = 1 ∨ j = 2 := by omega
  · exact (h i hi).1
  · exact (h i hi).2.1
  · exact (h i hi).2.2
theorem cell4 {n : Nat} {p : Nat → Nat → Prop} (h : ∀ i, i < n → p i 0 ∧ p i 1 ∧ p i 2 ∧ p i 3) : ∀ i j, i < n → j < 4 → p i j := fun i j hi hj => by
  obtain rfl | rfl | rfl | rfl : j = 0 ∨ j = 1 ∨ j = 2 ∨ j = 3 := by omega
  · exact (h i hi).1
  · exact (h i hi).2.1
  · exact (h i hi).2.2.1
  · exact (h i hi).2.2.2
theorem ext_getD {X : Type} {z : X} {xs ys : List X} (hl : xs.length = ys.length) (h : ∀ k, k < xs.length → xs.getD k z = ys.getD k z) : xs = ys := by
  refine List.ext_getElem hl (fun k h1 h2 => ?_)
  have := h k h1
  rw [List.getD_eq_getElem?_getD, List.getD_eq_getElem?_getD, List.getElem?_eq_getElem h1, List.getElem?_eq_getElem h2] at this
  exact this
/-! Steps whose side conditions are found by themselves. -/
theorem zA {n k : Nat} {p : Nat → Prop} (hp : p k) (h : k < n := by first | exact trivial | assumption | omega | (simp only [inK, lenR] at *; omega) | (simp; done) | fail) : ∃ k' : Nat, (k : Int) = (k' : Int) ∧ k' < n ∧ Nx (p k') := ⟨k, rfl, h, ⟨hp⟩⟩
theorem zB {n i : Nat} {p : Nat → Prop} (hp : p (i - 1)) (h0 : 0 < i := by omega) (h : i - 1 < n := by first | exact trivial | assumption | omega | (simp only [inK, lenR] at *; omega) | (simp; done) | fail) : ∃ k' : Nat, (i : Int) - 1 = (k' : Int) ∧ k' < n ∧ Nx (p k') := idxPred h0 h ⟨hp⟩
theorem zC {n i : Nat} {p : Nat → Prop} (hp : p (i + 1)) (h : i + 1 < n := by first | exact trivial | assumption | omega | (simp only [inK, lenR] at *; omega) | (simp; done) | fail) : ∃ k' : Nat, (i : Int) + 1 = (k' : Int) ∧ k' < n ∧ Nx (p k') := idxSucc h ⟨hp⟩
theorem zD {n : Nat} {m : Int} {p : Nat → Prop} (hp : p m.toNat) (h0 : 0 ≤ m := by omega) (h : m < n := by first | exact trivial | assumption | omega | (simp only [inK, lenR] at *; omega) | (simp; done) | fail) : ∃ k' : Nat, m = (k' : Int) ∧ k' < n ∧ Nx (p k') := idxTo h0 h ⟨hp⟩
theorem zE {n k : Nat} {p : Nat → Prop} (hp : p n) (h1 : n ≤ k := by omega) (h2 : k ≤ 274877906944 := by omega) : ∃ n' k' : Nat, (n : Int) = (n' : Int) ∧ (k : Int) = (k' : Int) ∧ n' ≤ k' ∧ k' ≤ 274877906944 ∧ Nx (p n') := mkNat h1 h2 ⟨hp⟩
theorem zF {n : Int} {p q : Prop} (hp : p) (h : -9223372036854775808 ≤ n ∧ n ≤ 9223372036854775807 := by omega) : (inK .i64 n ∧ Nx p) ∨ q := ar64 h ⟨hp⟩
theorem zG {k : IntKind} {n : Int} {p q : Prop} (hp : p) (h : inK k n := by first | exact trivial | assumption | omega | (simp only [inK, lenR] at *; omega) | (simp; done) | fail) : (inK k n ∧ Nx p) ∨ q := ar_in h ⟨hp⟩
theorem zH {p q : Prop} (h : q) (hp : p := by first | exact trivial | assumption | omega | (simp only [inK, lenR] at *; omega) | (simp; done) | fail) : p ∧ Nx q := ⟨hp, ⟨h⟩⟩
theorem zI {c : Bool} {p q : Prop} (h1 : c = true → p) (h2 : c = false → q) : (c = true → Nx p) ∧ (c = false → Nx q) := ⟨fun h => ⟨h1 h⟩, fun h => ⟨h2 h⟩⟩
theorem zJ {c p q : Prop} (h1 : c → p) (h2 : q) : (c → Nx p) ∧ Nx q := ⟨fun h => ⟨h1 h⟩, ⟨h2⟩⟩
theorem zK {c : Prop} [Decidable c] {p q : Prop} (h1 : c → p) (h2 : ¬c → q) : (decide c = true → Nx p) ∧ (decide c = false → Nx q) := ⟨fun h => ⟨h1 (of_decide_eq_true h)⟩, fun h => ⟨h2 (of_decide_eq_false h)⟩⟩
theorem zU {p : Prop} (h : p := by first | exact trivial | exact Eq.refl _ | exact Or.inl (Eq.refl _) | fail) : p := h
theorem zV {p : Prop} (h : p := by first | exact Nat.le_of_ble_eq_true (Eq.refl true) | exact ⟨_, _, Eq.refl _, Eq.refl _⟩ | fail) : p := h
theorem zW {p : Prop} (h : p := by (((repeat' ((try conv => whnf); (first | exact trivial | exact Eq.refl _ | exact Or.inl (Eq.refl _) | refine And.intro ?_ ?_ | exact fun _ _ _ _ => Eq.refl _ | refine cellJ (fun _ _ => ?_) | (refine cellB ?_; (conv => whnf); refine And.intro ?_ ?_) | exact Nat.le_of_ble_eq_true (Eq.refl true) | exact ⟨_, _, Eq.refl _, Eq.refl _⟩ | fail))) <;> (try conv => whnf)) <;> fail)) : p := h
end Go.Proofs.YtaopjdeigpiejaaDoor
namespace Go.Proofs.YtaopjdeigpiejaaDoor
open Go.RowKit
set_option linter.unusedVariables false

def nbL (d : Nat) : Option Blk → List (Nat × Option Blk)
  | none => []
  | some x => [(nm d, some x)]
def St.ap (s : St) (d : Nat) (A : AV) (bs : List (Nat × Option Blk)) : St := ⟨(d, A) :: s.slots, bs ++ s.store, s.n⟩
/-- What s0 tells of a block that is there in s is so. -/
def Agr (s0 s : St) : Prop := ∀ N x, s.lv N → s0.blk N = some x → s.blk N = some x
/-- The operation, carried out, leaves A in its slot, and makes the blocks bs. -/
inductive QStep (P : Program) (τ : List (Nat × TyI)) (s0 s : St) (o : Oper) (d : Nat) : AV → List (Nat × Option Blk) → Prop where
  | mkq {a nb} : d < s.n → Yields (q τ (nm d) s o.op) a nb → (nb = none ∨ s.rblk (nm d) = none) → QStep P τ s0 s o d a.res (nbL d nb)
  | mkc {g args nw a0 r σ} : d < s.n → q τ (nm d) s o.op = .call g args → Fn P g nw a0 [] r σ → callB s [] d σ = true → Agr s0 s → arg s0 [] nw 3 false args a0 →
      QStep P τ s0 s o d (r.rn (ren [] d)).res (newB (ren [] d) σ)

section
variable {P : Program} {τ : List (Nat × TyI)} {sf : List Nat} {E : Ent0} {w : World} {s s' s0 : St} {a : Act} {γ : Nm → Value}

theorem opVC_inv {o : Oper} {K : St → Prop} (h : opVC P τ (some sf) o s K) (hs : solidB sf o = false) : ∃ d A bs, o.dst = some d ∧ QStep P τ s s o d A bs ∧ K (s.ap d A bs) := by
  unfold opVC at h
  cases hd : o.dst with
  | none => simp [solidB, hd] at hs
  | some d =>
    rw [hd] at h
    simp only at h
    cases hb : Nat.blt d s.n with
    | false => rw [hb] at h; exact h.elim
    | true =>
      rw [hb] at h
      simp only [cond_true] at h
      have hdn : d < s.n := blt_pos hb
      have quiet : ∀ {x : AV} {nb : Option Blk}, Yields (q τ (nm d) s o.op) x nb → (nb = none ∨ s.rblk (nm d) = none) → K ((s.addB (nm d) nb).put d x.res) → ∃ d' A bs, some d = some d' ∧ QStep P τ s s o d' A bs ∧ K (s.ap d' A bs) := by
        intro x nb hy hL hK
        exact ⟨d, _, _, rfl, .mkq hdn hy hL, by cases nb <;> exact hK⟩
      split at h
      · rename_i x hq
        exact quiet (nb := none) (by rw [hq]; exact .val) (.inl rfl) (forceB_iff h)
      · rename_i p x hq
        exact quiet (nb := none) (by rw [hq]; exact .cond h.1) (.inl rfl) (forceB_iff h.2.out)
      · rename_i k n hq
        rcases h with ⟨h1, ⟨h2⟩⟩ | h2
        · exact quiet (x := .int k n) (nb := none) (by rw [hq]; exact .ari h1) (.inl rfl) h2
        · exact quiet (x := .int k (k.wrap n)) (nb := none) (by rw [hq]; exact .arw) (.inl rfl) h2.out
      · rename_i m n f hq
        obtain ⟨k, h1, h2, ⟨h3⟩⟩ := h
        exact quiet (nb := none) (by rw [hq]; exact .idx h1 h2) (.inl rfl) (forceB_iff h3)
      · rename_i x y z hq
        cases hx : x with
        | true => exact quiet (nb := none) (by rw [hq]; exact .splitT hx) (.inl rfl) (forceB_iff (h.1 hx).out)
        | false => exact quiet (nb := none) (by rw [hq]; exact .splitF hx) (.inl rfl) (forceB_iff (h.2 hx).out)
      · rename_i x y hq
        split at h
        · rename_i hbl
          rw [forceX_eq] at h
          exact quiet (nb := some x) (by rw [hq]; exact .new) (.inr hbl) (forceB_iff h)
        · exact h.elim
      · rename_i m c f y hq
        split at h
        · rename_i hbl
          obtain ⟨n, k, h1, h2, h3, h4, ⟨h5⟩⟩ := h
          exact quiet (nb := some (f n)) (by rw [hq]; exact .mk h1 h2 h3 h4) (.inr hbl) (forceB_iff h5)
        · exact h.elim
      · rename_i lo hi n f hq
        obtain ⟨l, h', h1, h2, h3, h4, ⟨h5⟩⟩ := h
        exact quiet (nb := none) (by rw [hq]; exact .slc h1 h2 h3 h4) (.inl rfl) (forceB_iff h5)
      · rename_i g args hq
        obtain ⟨nw, ns, a0, σ0, r, σ, hF, hcb, hle, har, ⟨hK⟩⟩ := h
        simp only [Bool.and_eq_true, allow, hs, Bool.or_false] at hcb
        obtain rfl : ns = [] := by simpa using hcb.2
        obtain rfl : σ0 = [] := by cases σ0 with | nil => rfl | cons p l => exact hle.elim
        exact ⟨d, _, _, rfl, .mkc hdn hq hF hcb.1 (fun _ _ _ e => e) har, forceB_iff hK⟩
      · split at h
        · rename_i c ho
          unfold appVC at h
          split at h
          · rename_i x y t t' hcal hargs htys
            simp [solidB, hd, ho, hcal] at hs
          · exact h.elim
        · exact h.elim
        · exact h.elim
        · exact h.elim
        · exact h.elim
        · exact h.elim

theorem QStep.sound (hτ : TyOk P τ) {o : Oper} {d : Nat} {A : AV} {bs : List (Nat × Option Blk)} {Q : Exit → Act → World → Prop} (h : QStep P τ s0 s o d A bs) (hd : o.dst = some d) (hs : Sim E s a w γ) :
    o.wp P a w (fun a' w' => Den E (s.ap d A bs) a' w') Q := by
  have hlow : low ≤ nm d := by unfold nm low; omega
  cases h with
  | mkq hdn hy hL =>
    rename_i x nb
    obtain ⟨v, w', γ', h1, h2, h3, h4⟩ := q_sound hτ hs hy (hL.imp id (fun h => ⟨h, hlow⟩))
    unfold Oper.wp
    rw [h1]
    show Den E _ (a.put o.dst v) w'
    rw [hd]
    have := h2.put (by cases nb <;> exact hdn) h3.res (fun M hM => h4 M (has_res hM))
    cases nb <;> exact ⟨γ', this⟩
  | mkc hdn hq hF hcb hag har =>
    rename_i g args nw a0 r σ
    obtain ⟨c, f, caps, ho, hc, hf, hargs⟩ := q_call hq
    unfold callB at hcb
    simp only [Bool.and_eq_true] at hcb
    obtain ⟨⟨⟨b1, b2⟩, b3⟩, b4⟩ := hcb
    have hok : CallOk s [] d nw args a0 [] σ := by
      refine ⟨List.nodup_nil, Nat.zero_le _, trivial, ⟨s0, hag, har⟩, ?_, fun k N y hN => by simp at hN, fun k N hN => by simp at hN⟩
      refine lkx_all (fun q hq => ?_)
      have := (List.all_eq_true.1 b3) q hq
      simp only [Bool.or_eq_true, Bool.and_eq_true] at this
      rcases this with h3 | ⟨h3, h4⟩
      · exact .inl (by rw [Nat.blt_eq] at h3; exact h3)
      · exact .inr ⟨Nat.le_of_ble_eq_true h3, Option.isNone_iff_eq_none.1 h4⟩
    refine callVC_sound ho hc hf hargs hs hF hok (fun v w' γ' h2 h3 h4 => ⟨γ', ?_⟩)
    rw [hd]
    exact h2.put (by rw [← h2.size, hs.size]; exact hdn) h3.res (fun M hM => h4 M (has_res hM))

/-- What both states hold they hold alike; what the second speaks of it holds. -/
structure Agree (s s' : St) : Prop where
  both : ∀ L x y, s.rblk L = some x → s'.rblk L = some y → x = y
  wf : s'.WF
theorem Agree.agr (h : Agree s s') : Agr s s' := by
  rintro N x ⟨z, y, hy, _⟩ hb
  unfold St.blk at hb ⊢
  cases hr : s.rblk N.r with
  | none => rw [hr] at hb; cases hb
  | some y0 =>
    rw [hr] at hb
    obtain rfl := h.both N.r y0 y hr hy
    rw [hy]; exact hb
theorem Agree.blk (h : Agree s s') {x : AV} (hl : s'.live x) {L : Nm} (hL : x.has L) {y : Blk} (hy : s.blk L = some y) : s'.blk L = some y := h.agr L y (hl L hL) hy

theorem loadA_local (h : Agree s s') {x : AV} (hl : s'.live x) {agg : Bool} {size : Nat} {b : AV} {nb : Option Blk} (hy : Yields (loadA s agg size x) b nb) : Yields (loadA s' agg size x) b nb := by
  cases x with
  | op L j =>
    simp only [loadA] at hy ⊢
    cases hb : s.blk L with
    | none => rw [hb] at hy; cases hy
    | some y => rw [h.blk hl rfl hb]; rw [hb] at hy; exact hy
  | oe L st k j =>
    simp only [loadA] at hy ⊢
    cases hb : s.blk L with
    | none => rw [hb] at hy; cases hy
    | some y => rw [h.blk hl rfl hb]; rw [hb] at hy; exact hy
  | _ => exact hy
theorem lenA_local (h : Agree s s') {kd : Nat} {x : AV} (hl : s'.live x) {b : AV} {nb : Option Blk} (hy : Yields (lenA s kd x) b nb) : Yields (lenA s' kd x) b nb := by
  cases x with
  | os L =>
    simp only [lenA] at hy ⊢
    cases hk : Nat.beq kd 0 with
    | false => rw [hk] at hy; cases hy
    | true =>
      rw [hk] at hy
      simp only [cond_true] at hy ⊢
      cases hb : s.blk L with
      | none => rw [hb] at hy; cases hy
      | some y => rw [h.blk hl rfl hb]; rw [hb] at hy; exact hy
  | om L =>
    simp only [lenA] at hy ⊢
    cases hk : Nat.beq kd 1 with
    | false => rw [hk] at hy; cases hy
    | true =>
      rw [hk] at hy
      simp only [cond_true] at hy ⊢
      cases hb : s.blk L with
      | none => rw [hb] at hy; cases hy
      | some y => rw [h.blk hl rfl hb]; rw [hb] at hy; exact hy
  | _ => exact hy
theorem slice0A_local (h : Agree s s') {x : AV} {lo : Option AV} {hi mx : AV} (hl : s'.live x) {b : AV} {nb : Option Blk} (hy : Yields (slice0A s x lo hi mx) b nb) : Yields (slice0A s' x lo hi mx) b nb := by
  unfold slice0A at hy ⊢
  split at hy
  · rename_i q n q' n'
    cases hc : (decide (n = 0) && decide (n' = 0)) with
    | false => rw [hc] at hy; cases hy
    | true =>
      rw [hc] at hy
      simp only [cond_true] at hy ⊢
      cases x with
      | os L =>
        simp only at hy ⊢
        cases hb : s.blk L with
        | none => rw [hb] at hy; cases hy
        | some y => rw [h.blk hl rfl hb]; rw [hb] at hy; exact hy
      | _ => exact hy
  · cases hy
theorem lkA_local (h : Agree s s') {t : Nat} {z : Option Mc} {x ix : AV} {ok : Bool} (hl : s'.live x) {b : AV} {nb : Option Blk} (hy : Yields (lkA s t z x ix ok) b nb) : Yields (lkA s' t z x ix ok) b nb := by
  unfold lkA at hy ⊢
  split at hy
  · rename_i N n
    cases hb : s.blk N with
    | none => rw [hb] at hy; cases hy
    | some y => rw [h.blk hl rfl hb]; rw [hb] at hy; exact hy
  · cases hy
theorem idxA_local (h : Agree s s') {x ix : AV} (hl : s'.live x) {z : Nat} {b : AV} {nb : Option Blk} (hy : Yields (idxA s z x ix) b nb) : Yields (idxA s' z x ix) b nb := by
  unfold idxA at hy ⊢
  cases ix with
  | int q m =>
    cases x with
    | os L =>
      simp only at hy ⊢
      cases hb : s.blk L with
      | none => rw [hb] at hy; cases hy
      | some y => rw [h.blk hl rfl hb]; rw [hb] at hy; exact hy
    | _ => exact hy
  | _ => exact hy
theorem evs_local : ∀ {l : List Operand}, (∀ x ∈ l, s.ev x = s'.ev x) → s.evs l = s'.evs l
  | [], _ => rfl
  | x :: l, h => by simp only [St.evs]; rw [h x (by simp), evs_local (fun y hy => h y (by simp [hy]))]
theorem partsA_local {z : Nat} : ∀ {l : List (Nat × Operand)} {k : Nat}, (∀ p ∈ l, s.ev p.2 = s'.ev p.2) → partsA s z k l = partsA s' z k l
  | [], k, _ => rfl
  | (i, x) :: l, k, h => by
    simp only [partsA]
    rw [h (i, x) (by simp), partsA_local (k := k + 1) (fun p hp => h p (by simp [hp]))]

set_option maxHeartbeats 1000000 in
theorem q_local (h : Agree s s') {L : Nat} {o : Op} (he : ∀ x ∈ o.operands, s.ev x = s'.ev x) (hlv : ∀ x, s'.live (s'.ev x)) {b : AV} {nb : Option Blk} (hy : Yields (q τ L s o) b nb) : Yields (q τ L s' o) b nb := by
  have loc : ∀ {x : Operand}, x ∈ o.operands → s.ev x = s'.ev x := fun {x} hx => he x hx
  cases o with
  | move x => simp only [q] at hy ⊢; rw [← loc (by simp [Op.operands])]; exact hy
  | assign x => simp only [q] at hy ⊢; rw [← loc (by simp [Op.operands])]; exact hy
  | pick c x y => simp only [q] at hy ⊢; rw [← loc (x := c) (by simp [Op.operands]), ← loc (x := x) (by simp [Op.operands]), ← loc (x := y) (by simp [Op.operands])]; exact hy
  | alloc t => exact hy
  | box t x => simp only [q] at hy ⊢; rw [← loc (by simp [Op.operands])]; exact hy
  | load t x =>
    simp only [q] at hy ⊢
    rw [loc (x := x) (by simp [Op.operands])] at hy
    split at hy
    · exact loadA_local h (hlv x) hy
    · cases hy
  | fieldAddr t x f => simp only [q] at hy ⊢; rw [← loc (by simp [Op.operands])]; exact hy
  | indexAddr t x ix =>
    simp only [q] at hy ⊢
    rw [loc (x := x) (by simp [Op.operands]), loc (x := ix) (by simp [Op.operands])] at hy
    split at hy
    · rename_i i hi
      split at hy
      · rename_i e hel
        cases hz : Nat.blt 0 i.elem with
        | false => rw [hz] at hy; cases hy
        | true => rw [hz] at hy; exact idxA_local h (hlv x) hy
      · cases hy
    · cases hy
  | binOp op t x y t' => simp only [q] at hy ⊢; rw [← loc (x := x) (by simp [Op.operands]), ← loc (x := y) (by simp [Op.operands])]; exact hy
  | nilCheck x => simp only [q] at hy ⊢; rw [← loc (x := x) (by simp [Op.operands])]; exact hy
  | convert src dst x => simp only [q] at hy ⊢; rw [← loc (x := x) (by simp [Op.operands])]; exact hy
  | makeMap t r =>
    cases r with
    | none => exact hy
    | some y => exact hy
  | lookup t x ix ok =>
    simp only [q] at hy ⊢
    rw [loc (x := x) (by simp [Op.operands]), loc (x := ix) (by simp [Op.operands])] at hy
    split at hy
    · rename_i i hi
      split at hy
      · rename_i k e hm
        split at hy
        · rename_i ki ei h1 h2
          cases hz : (decide (ki.ik = some .i64) && !ei.agg) with
          | false => rw [hz] at hy; cases hy
          | true => rw [hz] at hy; exact lkA_local h (hlv x) hy
        · cases hy
      · cases hy
    · cases hy
  | unOp op t x =>
    cases op with
    | not => simp only [q] at hy ⊢; rw [← loc (by simp [Op.operands])]; exact hy
    | neg => simp only [q] at hy ⊢; rw [← loc (by simp [Op.operands])]; exact hy
    | _ => exact hy
  | extract x n => simp only [q] at hy ⊢; rw [← loc (by simp [Op.operands])]; exact hy
  | field t x f => simp only [q] at hy ⊢; rw [← loc (by simp [Op.operands])]; exact hy
  | build t parts =>
    simp only [q] at hy ⊢
    have e : (parts.toList.map fun p => (p.1, s.ev p.2)) = parts.toList.map fun p => (p.1, s'.ev p.2) := List.map_congr_left (fun p hp => by rw [loc (by simp only [Op.operands]; simp; exact ⟨p.1, by simpa using hp⟩)])
    rw [← e]; exact hy
  | buildSlice t len parts =>
    simp only [q] at hy ⊢
    have e : ∀ z, partsA s z 0 parts.toList = partsA s' z 0 parts.toList := fun z => partsA_local (fun p hp => loc (by simp only [Op.operands]; simp; exact ⟨p.1, by simpa using hp⟩))
    simp only [← e]; exact hy
  | makeSlice t l c => simp only [q] at hy ⊢; rw [← loc (x := l) (by simp [Op.operands]), ← loc (x := c) (by simp [Op.operands])]; exact hy
  | slice t x lo hi mx =>
    have e1 : lo.map s.ev = lo.map s'.ev := by cases lo with | none => rfl | some y => simp only [Option.map_some]; rw [loc (x := y) (by simp [Op.operands])]
    cases mx with
    | some m =>
      cases hi with
      | none => exact hy
      | some z =>
        simp only [q] at hy ⊢
        rw [loc (x := x) (by simp [Op.operands]), loc (x := z) (by simp [Op.operands]), loc (x := m) (by simp [Op.operands]), e1] at hy
        split at hy
        · rename_i i hi'
          split at hy
          · rename_i e he'
            cases hz : Nat.blt 0 i.elem with
            | false => rw [hz] at hy; cases hy
            | true => rw [hz] at hy; exact slice0A_local h (hlv x) hy
          · cases hy
        · cases hy
    | none =>
      simp only [q] at hy ⊢
      have e2 : hi.map s.ev = hi.map s'.ev := by cases hi with | none => rfl | some y => simp only [Option.map_some]; rw [loc (x := y) (by simp [Op.operands])]
      rw [← loc (x := x) (by simp [Op.operands]), ← e1, ← e2]; exact hy
  | makeFunc fn first caps =>
    cases fn with
    | func f =>
      simp only [q] at hy ⊢
      rw [← evs_local (fun x hx => loc (x := x) (by simp only [Op.operands]; simp; exact .inr (by simpa using hx)))]; exact hy
    | _ => exact hy
  | call c =>
    simp only [q] at hy ⊢
    split at hy
    · rename_i hcal
      split at hy
      · rename_i x t hx ht
        rw [loc (x := x) (by simp only [Op.operands, Call.operands, hcal]; simp; rw [← Array.mem_toList_iff, hx]; simp)] at hy
        split at hy
        · rename_i i hi
          exact lenA_local h (hlv x) hy
        · cases hy
      · cases hy
    · rename_i hcal
      split at hy
      · rename_i x y hx
        rw [loc (x := x) (by simp only [Op.operands, Call.operands, hcal]; simp; rw [← Array.mem_toList_iff, hx]; simp), loc (x := y) (by simp only [Op.operands, Call.operands, hcal]; simp; rw [← Array.mem_toList_iff, hx]; simp)] at hy
        exact hy
      · cases hy
    · rename_i hcal
      split at hy
      · rename_i x y hx
        rw [loc (x := x) (by simp only [Op.operands, Call.operands, hcal]; simp; rw [← Array.mem_toList_iff, hx]; simp), loc (x := y) (by simp only [Op.operands, Call.operands, hcal]; simp; rw [← Array.mem_toList_iff, hx]; simp)] at hy
        exact hy
      · cases hy
    · split at hy <;> cases hy
    · cases hy
  | _ => exact hy
end
end Go.Proofs.YtaopjdeigpiejaaDoor
namespace Go.Proofs.YtaopjdeigpiejaaDoor
open Go.RowKit
set_option linter.unusedVariables false

section
variable {P : Program} {τ : List (Nat × TyI)} {sf : List Nat} {E : Ent0} {w : World} {s s' s0 : St} {a : Act} {γ : Nm → Value}

theorem newB_of {d L : Nat} {y : Blk} : ∀ {σ : List (Nat × Blk)}, lkb (newB (ren [] d) σ) L = some y → ∃ p ∈ σ, low ≤ p.1 ∧ L = p.1 + d * 16
  | [], h => by cases h
  | p :: σ, h => by
    unfold newB at h
    cases hb : Nat.blt p.1 low with
    | true => rw [hb] at h; obtain ⟨q, h1, h2⟩ := newB_of (σ := σ) h; exact ⟨q, by simp [h1], h2⟩
    | false =>
      rw [hb] at h
      have hlow : low ≤ p.1 := by
        rcases Nat.lt_or_ge p.1 low with h1 | h1
        · rw [show Nat.blt p.1 low = true by rw [Nat.blt_eq]; exact h1] at hb; cases hb
        · exact h1
      have h' : (bif Nat.beq (ren [] d p.1).r L then some (p.2.rn (ren [] d)) else lkb (newB (ren [] d) σ) L) = some y := h
      rw [ren_high hlow] at h'
      cases he : Nat.beq (rt (p.1 + d * 16)).r L with
      | true => exact ⟨p, by simp, hlow, (Nat.eq_of_beq_eq_true he).symm⟩
      | false => rw [he] at h'; obtain ⟨q, h1, h2⟩ := newB_of (σ := σ) h'; exact ⟨q, by simp [h1], h2⟩
theorem newB_isSome {d : Nat} : ∀ {σ : List (Nat × Blk)}, ∀ p ∈ newB (ren [] d) σ, p.2.isSome = true
  | [], p, h => by cases h
  | q :: σ, p, h => by
    unfold newB at h
    cases hb : Nat.blt q.1 low with
    | true => rw [hb] at h; exact newB_isSome (σ := σ) p h
    | false =>
      rw [hb] at h
      rcases List.mem_cons.1 h with rfl | h
      · rfl
      · exact newB_isSome (σ := σ) p h
theorem newB_has {d : Nat} : ∀ {σ : List (Nat × Blk)} {p : Nat × Blk}, p ∈ σ → low ≤ p.1 → ∃ y, lkb (newB (ren [] d) σ) (p.1 + d * 16) = some y
  | [], p, h, _ => by cases h
  | q :: σ, p, h, hl => by
    unfold newB
    cases hb : Nat.blt q.1 low with
    | true =>
      rcases List.mem_cons.1 h with rfl | h
      · have : p.1 < low := by rw [← Nat.blt_eq]; exact hb
        omega
      · exact newB_has h hl
    | false =>
      have hlow : low ≤ q.1 := by
        rcases Nat.lt_or_ge q.1 low with h1 | h1
        · rw [show Nat.blt q.1 low = true by rw [Nat.blt_eq]; exact h1] at hb; cases hb
        · exact h1
      show ∃ y, (bif Nat.beq (ren [] d q.1).r (p.1 + d * 16) then some (q.2.rn (ren [] d)) else lkb (newB (ren [] d) σ) (p.1 + d * 16)) = some y
      rw [ren_high hlow]
      cases he : Nat.beq (rt (q.1 + d * 16)).r (p.1 + d * 16) with
      | true => exact ⟨_, rfl⟩
      | false =>
        rcases List.mem_cons.1 h with rfl | h
        · have : Nat.beq (rt (p.1 + d * 16)).r (p.1 + d * 16) = true := Nat.beq_refl _
          rw [this] at he; cases he
        · exact newB_has h hl
theorem callB_all {d : Nat} {σ : List (Nat × Blk)} (h : callB s [] d σ = true) : ∀ p ∈ σ, low ≤ p.1 ∧ s.rblk (p.1 + d * 16) = none := by
  intro p hp
  unfold callB at h
  simp only [Bool.and_eq_true] at h
  have := (List.all_eq_true.1 h.1.2) p hp
  simp only [Bool.or_eq_true, Bool.and_eq_true] at this
  rcases this with h3 | ⟨h3, h4⟩
  · rw [Nat.blt_eq] at h3; simp at h3
  · exact ⟨Nat.le_of_ble_eq_true h3, Option.isNone_iff_eq_none.1 h4⟩
theorem callB_of {d : Nat} {σ : List (Nat × Blk)} (h : callB s [] d σ = true) (h' : ∀ p ∈ σ, s'.rblk (p.1 + d * 16) = none) : callB s' [] d σ = true := by
  have ha := callB_all h
  unfold callB at h ⊢
  simp only [Bool.and_eq_true] at h ⊢
  refine ⟨⟨h.1.1, List.all_eq_true.2 fun p hp => ?_⟩, rfl⟩
  have e : Nat.ble low p.1 = true := by rw [Nat.ble_eq]; exact (ha p hp).1
  simp [h' p hp, e]

theorem QStep.fresh {o : Oper} {d : Nat} {A : AV} {bs : List (Nat × Option Blk)} (h : QStep P τ s0 s o d A bs) : d < s.n ∧ (∀ p ∈ bs, p.2.isSome = true) ∧ ∀ L x, lkb bs L = some x → s.rblk L = none := by
  cases h with
  | mkq hdn hy hL =>
    rename_i x nb
    refine ⟨hdn, ?_, ?_⟩
    · cases nb with
      | none => intro p hp; cases hp
      | some y => intro p hp; cases List.mem_singleton.1 hp; rfl
    · intro L y hl
      cases nb with
      | none => cases hl
      | some z =>
        have hl' : (bif Nat.beq (nm d) L then some z else none) = some y := hl
        cases hb : Nat.beq (nm d) L with
        | false => rw [hb] at hl'; cases hl'
        | true => rw [← Nat.eq_of_beq_eq_true hb]; exact hL.resolve_left (by simp)
  | mkc hdn hq hF hcb hag har =>
    refine ⟨hdn, newB_isSome, fun L y hl => ?_⟩
    obtain ⟨p, hp, _, rfl⟩ := newB_of hl
    exact (callB_all hcb p hp).2

theorem QStep.loc (h : Agree s s') {o : Oper} {d : Nat} {A : AV} {bs : List (Nat × Option Blk)} (hq : QStep P τ s s o d A bs) (he : ∀ x ∈ o.op.operands, s.ev x = s'.ev x) (hlv : ∀ x, s'.live (s'.ev x)) (hn : s.n = s'.n)
    (hf : ∀ L x, lkb bs L = some x → s'.rblk L = none) : QStep P τ s s' o d A bs := by
  cases hq with
  | mkq hdn hy hL =>
    rename_i x nb
    refine .mkq (by rw [← hn]; exact hdn) (q_local h he hlv hy) ?_
    cases nb with
    | none => exact .inl rfl
    | some y => exact .inr (hf (nm d) y (by simp [nbL, lkb]))
  | mkc hdn hq hF hcb hag har =>
    rename_i g args nw a0 r σ
    obtain ⟨c, f, caps, ho, hc, hfe, rfl⟩ := q_call hq
    have e1 : s.evs c.args.toList = s'.evs c.args.toList := evs_local (fun x hx => he x (by rw [ho]; simp only [Op.operands, Call.operands]; simp; exact .inr (by simpa using hx)))
    have e2 : s.ev f = s'.ev f := he f (by rw [ho]; simp only [Op.operands, Call.operands, hc]; simp)
    have hq' : q τ (nm d) s' o.op = .call g ((s'.evs c.args.toList).app caps) := by
      rw [ho]
      simp only [q, hc, ← e2, hfe]
    rw [e1] at har
    refine .mkc (by rw [← hn]; exact hdn) hq' hF (callB_of hcb (fun p hp => ?_)) h.agr har
    obtain ⟨y, hy⟩ := newB_has (d := d) hp (callB_all hcb p hp).1
    exact hf _ y hy

/-- What a guard says. -/
def gd (s : St) (ops : Array Oper) (o : Oper) : Option Bool :=
  match o.guard with
  | none => some true
  | some (j, want) =>
    match (ops[j]?).bind (·.dst) with
    | none => none
    | some dj => (match s.slot dj with | .tt => some want | .ff => some (!want) | .c (.tuple _) => some false | _ => none)
theorem opsVC_inv {ops : Array Oper} {o : Oper} {rest : List Oper} {K : St → Prop} (h : opsVC P τ (some sf) ops (o :: rest) K s) :
    (gd s ops o = some true ∧ opVC P τ (some sf) o s (opsVC P τ (some sf) ops rest K)) ∨ (gd s ops o = some false ∧ skipVC o s (opsVC P τ (some sf) ops rest K)) := by
  unfold opsVC at h
  simp only [fK_eq] at h
  unfold gd
  cases hg : o.guard with
  | none => rw [hg] at h; exact .inl ⟨rfl, h⟩
  | some p =>
    obtain ⟨j, want⟩ := p
    rw [hg] at h
    simp only at h ⊢
    cases hj : (ops[j]?).bind (·.dst) with
    | none => rw [hj] at h; exact h.elim
    | some dj =>
      rw [hj] at h
      simp only at h ⊢
      split at h
      · rename_i he
        rw [he]
        cases want with
        | true => exact .inl ⟨rfl, h⟩
        | false => exact .inr ⟨rfl, h⟩
      · rename_i he
        rw [he]
        cases want with
        | true => exact .inr ⟨rfl, h⟩
        | false => exact .inl ⟨rfl, h⟩
      · rename_i z he
        rw [he]
        exact .inr ⟨rfl, h⟩
      · exact h.elim
theorem gd_sound {ops : Array Oper} {o : Oper} {b : Bool} (h : gd s ops o = some b) (hs : Sim E s a w γ) : Region.wanted o (yielded ops a.tmps) = b := by
  unfold gd at h
  cases hg : o.guard with
  | none => rw [hg] at h; cases h; simp [Region.wanted, hg]
  | some p =>
    obtain ⟨j, want⟩ := p
    rw [hg] at h
    simp only at h
    cases hj : (ops[j]?).bind (·.dst) with
    | none => rw [hj] at h; cases h
    | some dj =>
      rw [hj] at h
      simp only at h
      have hsl := hs.slots dj
      split at h
      · rename_i he
        rw [he] at hsl
        rw [wanted_at hg hj (x := true) (by simpa [Reps] using hsl)]
        have h1 : want = b := by simpa using h
        subst h1; cases want <;> rfl
      · rename_i he
        rw [he] at hsl
        rw [wanted_at hg hj (x := false) (by simpa [Reps] using hsl)]
        have h1 : (!want) = b := by simpa using h
        subst h1; cases want <;> rfl
      · rename_i z he
        rw [he] at hsl
        rw [wanted_undef hg hj (x := z) (by simpa [Reps] using hsl)]
        cases h; rfl
      · cases h
theorem gd_local {ops : Array Oper} {o : Oper} {b : Bool} (h : gd s ops o = some b) (he : ∀ j want dj, o.guard = some (j, want) → (ops[j]?).bind (·.dst) = some dj → s.slot dj = s'.slot dj) : gd s' ops o = some b := by
  unfold gd at h ⊢
  cases hg : o.guard with
  | none => rw [hg] at h; exact h
  | some p =>
    obtain ⟨j, want⟩ := p
    rw [hg] at h
    simp only at h ⊢
    cases hj : (ops[j]?).bind (·.dst) with
    | none => rw [hj] at h; cases h
    | some dj => rw [hj] at h; simp only at h ⊢; rw [← he j want dj hg hj]; exact h

/-- One operation that is not solid, carried out or left out. -/
def Lstep (P : Program) (τ : List (Nat × TyI)) (ops : Array Oper) (s0 s : St) (o : Oper) (d : Nat) (A : AV) (bs : List (Nat × Option Blk)) : Prop :=
  (gd s ops o = some true ∧ QStep P τ s0 s o d A bs) ∨ (gd s ops o = some false ∧ d < s.n ∧ A = .c (.tuple #[]) ∧ bs = [])
/-- One operation, in whatever state of which s tells the truth, leads to s'. -/
def Sstep (P : Program) (ops : Array Oper) (s : St) (o : Oper) (s' : St) : Prop :=
  ∀ E a w Q, Den E s a w → if Region.wanted o (yielded ops a.tmps) then o.wp P a w (fun a' w' => Den E s' a' w') Q else Den E s' (a.put o.dst undef) w
theorem Lstep.sound (hτ : TyOk P τ) {ops : Array Oper} {o : Oper} {d : Nat} {A : AV} {bs : List (Nat × Option Blk)} (h : Lstep P τ ops s0 s o d A bs) (hd : o.dst = some d) : Sstep P ops s o (s.ap d A bs) := by
  rintro E a w Q ⟨γ, hs⟩
  rcases h with ⟨hg, hq⟩ | ⟨hg, hn, rfl, rfl⟩
  · rw [gd_sound hg hs]; exact hq.sound hτ hd hs
  · rw [gd_sound hg hs]
    have h1 : Sim E (s.put d (.c (.tuple #[]))) (a.put (some d) undef) w γ := hs.put hn rfl (fun M hM => hM.elim)
    rw [hd]; exact ⟨γ, h1⟩
theorem Lstep.fresh {ops : Array Oper} {o : Oper} {d : Nat} {A : AV} {bs : List (Nat × Option Blk)} (h : Lstep P τ ops s0 s o d A bs) : d < s.n ∧ (∀ p ∈ bs, p.2.isSome = true) ∧ ∀ L x, lkb bs L = some x → s.rblk L = none := by
  rcases h with ⟨_, hq⟩ | ⟨_, hn, rfl, rfl⟩
  · exact hq.fresh
  · exact ⟨hn, fun p hp => (by cases hp), fun L x h => (by cases h)⟩
theorem Lstep.loc (h : Agree s s') {ops : Array Oper} {o : Oper} {d : Nat} {A : AV} {bs : List (Nat × Option Blk)} (hL : Lstep P τ ops s s o d A bs) (he : ∀ x ∈ o.op.operands, s.ev x = s'.ev x)
    (hg : ∀ j want dj, o.guard = some (j, want) → (ops[j]?).bind (·.dst) = some dj → s.slot dj = s'.slot dj) (hlv : ∀ x, s'.live (s'.ev x)) (hn : s.n = s'.n) (hf : ∀ L x, lkb bs L = some x → s'.rblk L = none)   : Lstep P τ ops s s' o d A bs := by
  rcases hL with ⟨h1, h2⟩ | ⟨h1, h2, h3, h4⟩
  · exact .inl ⟨gd_local h1 hg, h2.loc h he hlv hn hf⟩
  · exact .inr ⟨gd_local h1 hg, by rw [← hn]; exact h2, h3, h4⟩
theorem forceB_of {x : AV} {f : AV → Prop} (h : f x.res) : x.forceB f := by
  cases x with
  | b z => exact ⟨fun e => ⟨by subst e; exact h⟩, fun e => ⟨by subst e; exact h⟩⟩
  | _ => exact h
/-- A solid operation. -/
theorem opVC_solid {o : Oper} {K : St → Prop} (h : opVC P τ (some sf) o s K) (hs : solidB sf o = true) : ∃ s', K s' ∧ opVC P τ (some sf) o s (fun t => t = s') := by
  have mup : ∀ {t : Nat} {m k x : Operand}, mupVC τ s t m k x K → ∃ s', K s' ∧ mupVC τ s t m k x (fun t => t = s') := by
    intro t m k x h
    unfold mupVC at h ⊢
    split at h
    · split at h
      · split at h
        · rename_i ki _
          cases hb : decide (ki.ik = some .i64) with
          | false => rw [hb] at h; exact h.elim
          | true =>
            rw [hb] at h
            simp only [cond_true] at h ⊢
            split at h
            · exact ⟨_, h, rfl⟩
            · exact h.elim
        · exact h.elim
      · exact h.elim
    · exact h.elim
  unfold opVC at h ⊢
  cases hd : o.dst with
  | none =>
    rw [hd] at h
    simp only at h ⊢
    split at h
    · rename_i t x y ho
      cases hi : ty? τ t with
      | none => rw [hi] at h; exact h.elim
      | some i =>
        rw [hi] at h
        simp only at h ⊢
        cases hz : Nat.blt 0 i.size with
        | false => rw [hz] at h; exact h.elim
        | true =>
          rw [hz] at h
          simp only [cond_true] at h ⊢
          unfold stoVC at h ⊢
          split at h
          · split at h
            · exact ⟨_, h, rfl⟩
            · exact h.elim
          · split at h
            · exact ⟨_, h.2.out, h.1, ⟨rfl⟩⟩
            · exact h.elim
      done
    · exact mup h
    · exact mup h
    · split at h
      · obtain ⟨nw, ns, a0, σ0, r, σ, hF, hcb, hle, har, ⟨hK⟩⟩ := h
        exact ⟨_, forceB_iff hK, nw, ns, a0, σ0, r, σ, hF, hcb, hle, har, ⟨forceB_of rfl⟩⟩
      · exact h.elim
    · exact h.elim
  | some d =>
    rw [hd] at h
    simp only at h ⊢
    cases hb : Nat.blt d s.n with
    | false => rw [hb] at h; exact h.elim
    | true =>
      rw [hb] at h
      simp only [cond_true] at h ⊢
      cases ho : o.op with
      | call c =>
        simp only [solidB, hd, ho] at hs
        rw [ho] at h
        split at hs
        · rename_i hcal
          have hq : q τ (nm d) s (.call c) = .bad := by simp only [q, hcal]
          rw [hq] at h
          rw [hq]
          simp only at h ⊢
          unfold appVC at h ⊢
          rw [hcal] at h ⊢
          generalize c.args.toList = l1 at h ⊢
          generalize c.argTypes.toList = l2 at h ⊢
          split at h
          · rename_i x y t t' _
            cases hbt : Nat.beq t' t with
            | false => rw [hbt] at h; exact h.elim
            | true =>
              rw [hbt] at h
              simp only [cond_true] at h ⊢
              cases hi : ty? τ t with
              | none => rw [hi] at h; exact h.elim
              | some i =>
                rw [hi] at h
                simp only at h ⊢
                cases he : ty? τ i.elem with
                | none => rw [he] at h; exact h.elim
                | some e =>
                  rw [he] at h
                  simp only at h ⊢
                  cases hbb : (Nat.blt 0 i.elem && Nat.blt 0 e.size && Nat.ble e.bytes 256) with
                  | false => rw [hbb] at h; exact h.elim
                  | true =>
                    rw [hbb] at h
                    simp only [cond_true] at h ⊢
                    cases hap : appX s i.elem e.size (nm d) d (s.ev x) (s.ev y) with
                    | ok p s1 => rw [hap] at h; exact ⟨s1, h.2.out, h.1, ⟨rfl⟩⟩
                    | bad => rw [hap] at h; exact h.elim
          · exact h.elim
        · rename_i g hcal
          have hev : s.ev (.func g) = .fn g .nil := rfl
          have hq : q τ (nm d) s (.call c) = .call g ((s.evs c.args.toList).app .nil) := by simp only [q, hcal, hev]
          rw [hq] at h
          rw [hq]
          simp only at h ⊢
          obtain ⟨nw, ns, a0, σ0, r, σ, hF, hcb, hle, har, ⟨hK⟩⟩ := h
          exact ⟨_, forceB_iff hK, nw, ns, a0, σ0, r, σ, hF, hcb, hle, har, ⟨forceB_of rfl⟩⟩
        · cases hs
      | _ => simp [solidB, hd, ho] at hs
theorem skip_solid {o : Oper} {K : St → Prop} (h : skipVC o s K) : ∃ s', K s' ∧ skipVC o s (fun t => t = s') := by
  unfold skipVC at h ⊢
  cases hd : o.dst with
  | none => rw [hd] at h; exact ⟨s, h, rfl⟩
  | some d =>
    rw [hd] at h
    simp only at h ⊢
    cases hb : Nat.blt d s.n with
    | false => rw [hb] at h; exact h.elim
    | true => rw [hb] at h; exact ⟨_, h, rfl⟩

/-- One operation of the text's order. -/
def Tstep (P : Program) (τ : List (Nat × TyI)) (sf : List Nat) (ops : Array Oper) (i : Nat) (s s' : St) (A : AV) (bs : List (Nat × Option Blk)) : Prop :=
  ∃ o, ops[i]? = some o ∧ ((solidB sf o = true ∧ Sstep P ops s o s') ∨ (solidB sf o = false ∧ ∃ d, o.dst = some d ∧ Lstep P τ ops s s o d A bs ∧ s' = s.ap d A bs))
theorem tstep_of (hτ : TyOk P τ) {ops : Array Oper} {i : Nat} {o : Oper} {rest : List Oper} {K : St → Prop} (hi : ops[i]? = some o) (h : opsVC P τ (some sf) ops (o :: rest) K s) : ∃ s' A bs, Tstep P τ sf ops i s s' A bs ∧ opsVC P τ (some sf) ops rest K s' := by
  cases hs : solidB sf o with
  | true =>
    rcases opsVC_inv h with ⟨hg, hv⟩ | ⟨hg, hv⟩
    · obtain ⟨s', h1, h2⟩ := opVC_solid hv hs
      refine ⟨s', .top, [], ⟨o, hi, .inl ⟨hs, ?_⟩⟩, h1⟩
      rintro E a w Q ⟨γ, hS⟩
      rw [gd_sound hg hS]
      exact Oper.wp_mono (fun a' w' ⟨s'', e, hd⟩ => by cases e; exact hd) (opVC_sound hτ h2 hS)
    · obtain ⟨s', h1, h2⟩ := skip_solid hv
      refine ⟨s', .top, [], ⟨o, hi, .inl ⟨hs, ?_⟩⟩, h1⟩
      rintro E a w Q ⟨γ, hS⟩
      rw [gd_sound hg hS]
      obtain ⟨s'', e, h3⟩ := skipVC_sound h2 hS
      cases e
      exact ⟨γ, h3⟩
  | false =>
    rcases opsVC_inv h with ⟨hg, hv⟩ | ⟨hg, hv⟩
    · obtain ⟨d, A, bs, hd, hq, hK⟩ := opVC_inv hv hs
      exact ⟨_, A, bs, ⟨o, hi, .inr ⟨hs, d, hd, .inl ⟨hg, hq⟩, rfl⟩⟩, hK⟩
    · unfold skipVC at hv
      cases hd : o.dst with
      | none => simp [solidB, hd] at hs
      | some d =>
        rw [hd] at hv
        simp only at hv
        cases hb : Nat.blt d s.n with
        | false => rw [hb] at hv; exact hv.elim
        | true =>
          rw [hb] at hv
          exact ⟨_, _, [], ⟨o, hi, .inr ⟨hs, d, hd, .inr ⟨hg, blt_pos hb, rfl, rfl⟩, rfl⟩⟩, hv⟩
theorem trace_of (hτ : TyOk P τ) {ops : Array Oper} {K : St → Prop} : ∀ (l : List Oper) (k : Nat) (s : St), (∀ j, l[j]? = ops[k + j]?) → opsVC P τ (some sf) ops l K s →
    ∃ (st : Nat → St) (A : Nat → AV) (bs : Nat → List (Nat × Option Blk)), st k = s ∧ K (st (k + l.length)) ∧ ∀ i, k ≤ i → i < k + l.length → Tstep P τ sf ops i (st i) (st (i + 1)) (A i) (bs i)
  | [], k, s, hl, h => ⟨fun _ => s, fun _ => .top, fun _ => [], rfl, h, fun i h1 h2 => by simp at h2; omega⟩
  | o :: l, k, s, hl, h => by
    have h0 : ops[k]? = some o := by simpa using (hl 0).symm
    obtain ⟨s', A0, b0, ht, hr⟩ := tstep_of hτ h0 h
    obtain ⟨st, A, bs, e, hK, hT⟩ := trace_of hτ l (k + 1) s' (fun j => by have := hl (j + 1); simpa [Nat.add_assoc, Nat.add_comm 1 j] using this) hr
    refine ⟨fun i => if i ≤ k then s else st i, fun i => if i = k then A0 else A i, fun i => if i = k then b0 else bs i, by simp, ?_, fun i h1 h2 => ?_⟩
    · have e2 : k + (o :: l).length = k + 1 + l.length := by simp; omega
      rw [e2]
      show K (if k + 1 + l.length ≤ k then s else st (k + 1 + l.length))
      rw [if_neg (by omega)]; exact hK
    · by_cases hik : i = k
      · subst hik
        simp only [Nat.le_refl, if_true, show ¬ i + 1 ≤ i by omega, if_false, e]
        exact ht
      · simp only [show ¬ i ≤ k by omega, show ¬ i + 1 ≤ k by omega, if_false, hik]
        exact hT i (by omega) (by simp at h2; omega)
end
end Go.Proofs.YtaopjdeigpiejaaDoor
namespace Go.Proofs.YtaopjdeigpiejaaDoor
open Go.RowKit
set_option linter.unusedVariables false

/-- The slots that an operation looks at or writes. -/
def touches (ops : Array Oper) (o : Oper) : List Nat :=
  o.dst.toList ++ (o.op.operands.toList.filterMap fun | .tmp t => some t | _ => none) ++ (match o.guard with | some (g, _) => ((ops[g]?).bind (·.dst)).toList | none => [])
def maskOf (B : List Nat) (o : Oper) : Nat := o.after.toList.foldl (fun m e => if Region.binds .any e then m ||| 2 ^ e.on ||| B.getD e.on 0 else m) 0
/-- B: for each operation those that come ahead of it. -/
def certB (l : List Oper) (B : List Nat) : Bool := l.zipIdx.all fun (o, i) => Nat.beq (B.getD i 0) (maskOf B o) && o.after.toList.all fun e => !Region.binds .any e || Nat.blt e.on i
def ordB (B : List Nat) (i j : Nat) : Bool := (B.getD (max i j) 0).testBit (min i j)
def apartB (sf : List Nat) (ops : Array Oper) (l : List Oper) (B : List Nat) : Bool :=
  l.zipIdx.all fun (o, i) => l.zipIdx.all fun (o', j) => Nat.beq i j || ((!(solidB sf o) || ordB B i j) && (match o'.dst with | some t => !((touches ops o).contains t) || ordB B i j | none => true))
def drawB (sf : List Nat) (ops : Array Oper) : Bool := let B := (Region.before ops).toList; certB ops.toList B && apartB sf ops ops.toList B

theorem mask_spec {B : List Nat} {k : Nat} : ∀ (l : List Edge) (m : Nat), (l.foldl (fun m e => if Region.binds .any e then m ||| 2 ^ e.on ||| B.getD e.on 0 else m) m).testBit k = true → m.testBit k = true ∨ ∃ e ∈ l, Region.binds .any e = true ∧ (e.on = k ∨ (B.getD e.on 0).testBit k = true)
  | [], m, h => .inl h
  | e :: l, m, h => by
    rw [List.foldl_cons] at h
    rcases mask_spec l _ h with h1 | ⟨e', h1, h2, h3⟩
    · by_cases hb : Region.binds .any e = true
      · rw [if_pos hb, Nat.testBit_or, Nat.testBit_or] at h1
        simp only [Bool.or_eq_true] at h1
        rcases h1 with (h1 | h1) | h1
        · exact .inl h1
        · rw [Nat.testBit_two_pow] at h1
          exact .inr ⟨e, by simp, hb, .inl (by simpa using h1)⟩
        · exact .inr ⟨e, by simp, hb, .inr h1⟩
      · rw [if_neg hb] at h1; exact .inl h1
    · exact .inr ⟨e', by simp [h1], h2, h3⟩

section
variable {P : Program} {τ : List (Nat × TyI)} {sf : List Nat} {ops : Array Oper}

def Lst (listed : Array Bool) (k : Nat) : Prop := listed.getD k false = true
structure Closed (ops : Array Oper) (listed : Array Bool) : Prop where
  size : listed.size = ops.size
  edges : ∀ k o, ops[k]? = some o → Lst listed k → ∀ e ∈ o.after, Region.binds .any e = true → Lst listed e.on
theorem cert_at {B : List Nat} (h : certB ops.toList B = true) {i : Nat} {o : Oper} (hi : ops[i]? = some o) : B.getD i 0 = maskOf B o ∧ ∀ e ∈ o.after, Region.binds .any e = true → e.on < i := by
  have hm : (o, i) ∈ ops.toList.zipIdx := by
    rw [List.mem_zipIdx_iff_getElem?]
    simpa using hi
  have := (List.all_eq_true.1 h) _ hm
  simp only [Bool.and_eq_true, List.all_eq_true] at this
  refine ⟨Nat.eq_of_beq_eq_true this.1, fun e he hb => ?_⟩
  have h2 := this.2 e (by simpa using he)
  rw [hb] at h2
  exact blt_pos (by simpa using h2)
/-- What comes ahead of an operation all of whose edges are listed is listed. -/
theorem ahead_listed {B : List Nat} (hB : certB ops.toList B = true) {listed : Array Bool} (hc : Closed ops listed) : ∀ (i : Nat) (o : Oper), ops[i]? = some o → (∀ e ∈ o.after, Region.binds .any e = true → Lst listed e.on) → ∀ k, (B.getD i 0).testBit k = true → Lst listed k := by
  intro i
  induction i using Nat.strongRecOn with
  | _ i ih =>
    intro o hi he k hk
    obtain ⟨h1, h2⟩ := cert_at hB hi
    rw [h1] at hk
    rcases mask_spec _ _ hk with h3 | ⟨e, h3, h4, h5⟩
    · simp at h3
    · have h3' : e ∈ o.after := by simpa using h3
      rcases h5 with rfl | h5
      · exact he e h3' h4
      · have hl := he e h3' h4
        have hlt := h2 e h3' h4
        have hs : e.on < ops.size := by
          have := (Array.getElem?_eq_some_iff.1 hi).1; omega
        obtain ⟨o', ho'⟩ : ∃ o', ops[e.on]? = some o' := ⟨ops[e.on], Array.getElem?_eq_getElem hs⟩
        exact ih e.on hlt o' ho' (hc.edges e.on o' ho' hl) k h5
theorem apart_at {B : List Nat} (h : apartB sf ops ops.toList B = true) {i j : Nat} {o o' : Oper} (hi : ops[i]? = some o) (hj : ops[j]? = some o') (hij : i ≠ j) :
    (solidB sf o = true → ordB B i j = true) ∧ ∀ t, o'.dst = some t → t ∈ touches ops o → ordB B i j = true := by
  have m1 : (o, i) ∈ ops.toList.zipIdx := by rw [List.mem_zipIdx_iff_getElem?]; simpa using hi
  have m2 : (o', j) ∈ ops.toList.zipIdx := by rw [List.mem_zipIdx_iff_getElem?]; simpa using hj
  have := (List.all_eq_true.1 ((List.all_eq_true.1 h) _ m1)) _ m2
  simp only [Bool.or_eq_true, Bool.and_eq_true] at this
  rcases this with h1 | ⟨h1, h2⟩
  · exact absurd (Nat.eq_of_beq_eq_true h1) hij
  · refine ⟨fun hs => ?_, fun t ht hm => ?_⟩
    · rcases h1 with h1 | h1
      · rw [hs] at h1; cases h1
      · exact h1
    · rw [ht] at h2
      simp only [Bool.or_eq_true] at h2
      rcases h2 with h2 | h2
      · simp at h2; exact absurd hm h2
      · exact h2
/-- Operation i may come up now; j is ordered with it: it is listed if and only if it stands ahead in the text. -/
theorem ord_listed {B : List Nat} (hB : certB ops.toList B = true) {listed : Array Bool} (hc : Closed ops listed) {i j : Nat} {o o' : Oper} (hi : ops[i]? = some o) (hj : ops[j]? = some o') (hij : i ≠ j) (hun : ¬ Lst listed i)
    (hr : ∀ e ∈ o.after, Region.binds .any e = true → Lst listed e.on) (h : ordB B i j = true) : (j < i → Lst listed j) ∧ (Lst listed j → j < i) := by
  unfold ordB at h
  rcases Nat.lt_or_gt_of_ne hij with hlt | hgt
  · rw [Nat.max_eq_right (Nat.le_of_lt hlt), Nat.min_eq_left (Nat.le_of_lt hlt)] at h
    refine ⟨fun h1 => by omega, fun hl => ?_⟩
    exact absurd (ahead_listed hB hc j o' hj (hc.edges j o' hj hl) i h) hun
  · rw [Nat.max_eq_left (Nat.le_of_lt hgt), Nat.min_eq_right (Nat.le_of_lt hgt)] at h
    exact ⟨fun _ => ahead_listed hB hc i o hi hr j h, fun _ => hgt⟩

theorem den_congr {E : Ent0} {s s' : St} {a : Act} {w : World} (h1 : ∀ t, s.slot t = s'.slot t) (h2 : ∀ L, s.rblk L = s'.rblk L) (h3 : s.n = s'.n) (hd : Den E s a w) : Den E s' a w := by
  obtain ⟨γ, h⟩ := hd
  have e : s.rblk = s'.rblk := funext h2
  have ha : s'.at = s.at := by unfold St.at; rw [e]
  have hl : s'.lv = s.lv := by unfold St.lv; rw [ha]
  have ho : s'.own γ = s.own γ := by unfold St.own; rw [ha]
  have hli : s'.live = s.live := by unfold St.live; rw [hl]
  refine ⟨γ, by rw [← h3]; exact h.size, h.defers, fun t => ?_, fun N x hN => ?_, fun N x bk hN hb => h.mine N x bk (by rw [← ha]; exact hN) hb, fun N M x y bk hN hM hb hc => h.inj N M x y bk (by rw [← ha]; exact hN) (by rw [← ha]; exact hM) hb hc, ⟨fun t => ?_, fun M x N hM hN => ?_⟩, fun L hL hv => h.hd L hL (by rw [← hl]; exact hv), h.fr⟩
  · rw [ho, ← h1]; exact h.slots t
  · rw [ho]; exact h.blks N x (by rw [← ha]; exact hN)
  · rw [← h1, hli]; exact h.wf.slot t
  · rw [hl]; exact h.wf.blk M x N (by rw [← ha]; exact hM) hN
theorem lkb_app {b l : List (Nat × Option Blk)} (h : ∀ p ∈ b, p.2.isSome = true) (L : Nat) : lkb (b ++ l) L = match lkb b L with | some x => some x | none => lkb l L := by
  induction b with
  | nil => rfl
  | cons p b ih =>
    simp only [List.cons_append, lkb]
    cases hb : Nat.beq p.1 L with
    | true =>
      obtain ⟨x, hx⟩ := Option.isSome_iff_exists.1 (h p (by simp))
      simp [hx]
    | false => simp only [cond_false]; exact ih (fun q hq => h q (by simp [hq]))

variable (st : Nat → St) (A : Nat → AV) (bs : Nat → List (Nat × Option Blk))
def Wr (ops : Array Oper) (k t : Nat) : Prop := ∃ o, ops[k]? = some o ∧ o.dst = some t
/-- From st m on the operations D, none of them solid, have come up. -/
structure Spec (ops : Array Oper) (m : Nat) (D : Nat → Prop) (t : St) : Prop where
  n : t.n = (st m).n
  slot : ∀ r, (∃ k, D k ∧ Wr ops k r ∧ (∀ k', D k' → Wr ops k' r → k' ≤ k) ∧ t.slot r = A k) ∨ ((∀ k, D k → ¬ Wr ops k r) ∧ t.slot r = (st m).slot r)
  blk : ∀ L x, t.rblk L = some x ↔ ((st m).rblk L = some x ∨ ∃ k, D k ∧ lkb (bs k) L = some x)
variable {st A bs}
theorem Spec.same {m : Nat} {D : Nat → Prop} {t t' : St} (h : Spec st A bs ops m D t) (h' : Spec st A bs ops m D t') {E : Ent0} {a : Act} {w : World} (hd : Den E t a w) : Den E t' a w := by
  refine den_congr (fun r => ?_) (fun L => ?_) (h.n.trans h'.n.symm) hd
  · rcases h.slot r with ⟨k, h1, h2, h3, h4⟩ | ⟨h1, h2⟩ <;> rcases h'.slot r with ⟨k', g1, g2, g3, g4⟩ | ⟨g1, g2⟩
    · have e : k = k' := by have := h3 k' g1 g2; have := g3 k h1 h2; omega
      subst e; rw [h4, g4]
    · exact absurd h2 (g1 k h1)
    · exact absurd g2 (h1 k' g1)
    · rw [h2, g2]
  · cases hb : t.rblk L with
    | some x => exact ((h'.blk L x).2 ((h.blk L x).1 hb)).symm
    | none =>
      cases hb' : t'.rblk L with
      | none => rfl
      | some x => rw [(h.blk L x).2 ((h'.blk L x).1 hb')] at hb; cases hb

/-- Not solid from m to i. -/
def Soft (sf : List Nat) (ops : Array Oper) (m i : Nat) : Prop := ∀ k o, m ≤ k → k < i → ops[k]? = some o → solidB sf o = false

theorem Spec.ap {m i : Nat} {D : Nat → Prop} {t : St} (h : Spec st A bs ops m D t) {o : Oper} {d : Nat} (hi : ops[i]? = some o) (hd : o.dst = some d) (hlt : ∀ k, D k → Wr ops k d → k ≤ i) (hsome : ∀ p ∈ bs i, p.2.isSome = true)
    (hf : ∀ L x, lkb (bs i) L = some x → t.rblk L = none) : Spec st A bs ops m (fun k => D k ∨ k = i) (t.ap d (A i) (bs i)) := by
  have wi : ∀ r, Wr ops i r → r = d := fun r ⟨o', h1, h2⟩ => by rw [hi] at h1; cases h1; rw [hd] at h2; cases h2; rfl
  refine ⟨h.n, fun r => ?_, fun L x => ?_⟩
  · have e : (t.ap d (A i) (bs i)).slot r = if d = r then A i else t.slot r := St.slot_put t d r (A i)
    by_cases hr : d = r
    · subst hr
      exact .inl ⟨i, .inr rfl, ⟨o, hi, hd⟩, fun k' hk' hw => hk'.elim (fun h1 => hlt k' h1 hw) (fun h1 => by omega), by rw [e, if_pos rfl]⟩
    · rw [e, if_neg hr]
      rcases h.slot r with ⟨k, h1, h2, h3, h4⟩ | ⟨h1, h2⟩
      · exact .inl ⟨k, .inl h1, h2, fun k' hk' hw => hk'.elim (fun h5 => h3 k' h5 hw) (fun h5 => absurd (wi r (h5 ▸ hw)) (Ne.symm hr)), h4⟩
      · exact .inr ⟨fun k hk hw => hk.elim (fun h5 => h1 k h5 hw) (fun h5 => hr (wi r (h5 ▸ hw)).symm), h2⟩
  · have e : (t.ap d (A i) (bs i)).rblk L = match lkb (bs i) L with | some x => some x | none => t.rblk L := lkb_app hsome L
    rw [e]
    cases hb : lkb (bs i) L with
    | some y =>
      constructor
      · intro h1; cases h1; exact .inr ⟨i, .inr rfl, hb⟩
      · rintro (h1 | ⟨k, hk, h1⟩)
        · have := (h.blk L x).2 (.inl h1); rw [hf L y hb] at this; cases this
        · rcases hk with hk | rfl
          · have := (h.blk L x).2 (.inr ⟨k, hk, h1⟩); rw [hf L y hb] at this; cases this
          · rw [hb] at h1; exact h1
    | none =>
      refine ⟨fun h1 => ((h.blk L x).1 h1).imp id (fun ⟨k, hk, h2⟩ => ⟨k, .inl hk, h2⟩), ?_⟩
      rintro (h1 | ⟨k, hk, h1⟩)
      · exact (h.blk L x).2 (.inl h1)
      · rcases hk with hk | rfl
        · exact (h.blk L x).2 (.inr ⟨k, hk, h1⟩)
        · rw [hb] at h1; cases h1

theorem Spec.congr {m : Nat} {D D' : Nat → Prop} {t : St} (h : Spec st A bs ops m D t) (hD : ∀ k, D k ↔ D' k) : Spec st A bs ops m D' t := by
  have : D = D' := funext fun k => propext (hD k)
  exact this ▸ h

theorem soft_step (hT : ∀ i, i < ops.size → Tstep P τ sf ops i (st i) (st (i + 1)) (A i) (bs i)) {i : Nat} {o : Oper} (hi : ops[i]? = some o) (hs : solidB sf o = false) :
    ∃ d, o.dst = some d ∧ Lstep P τ ops (st i) (st i) o d (A i) (bs i) ∧ st (i + 1) = (st i).ap d (A i) (bs i) := by
  obtain ⟨o', h1, h2⟩ := hT i (Array.getElem?_eq_some_iff.1 hi).1
  rw [hi] at h1
  cases h1
  rcases h2 with ⟨h2, _⟩ | ⟨_, h2⟩
  · rw [hs] at h2; cases h2
  · exact h2
/-- The text's own order. -/
theorem spec_text (hT : ∀ i, i < ops.size → Tstep P τ sf ops i (st i) (st (i + 1)) (A i) (bs i)) (m : Nat) : ∀ i, m ≤ i → i ≤ ops.size → Soft sf ops m i → Spec st A bs ops m (fun k => m ≤ k ∧ k < i) (st i) := by
  intro i
  induction i with
  | zero =>
    intro h1 _ _
    have : m = 0 := by omega
    subst this
    exact ⟨rfl, fun r => .inr ⟨fun k hk => by omega, rfl⟩, fun L x => ⟨.inl, fun h => h.elim id (fun ⟨k, hk, _⟩ => by omega)⟩⟩
  | succ i ih =>
    intro h1 h2 hs
    by_cases hm : m = i + 1
    · subst hm
      exact ⟨rfl, fun r => .inr ⟨fun k hk => by omega, rfl⟩, fun L x => ⟨.inl, fun h => h.elim id (fun ⟨k, hk, _⟩ => by omega)⟩⟩
    · have hi : ops[i]? = some ops[i] := Array.getElem?_eq_getElem (by omega)
      obtain ⟨d, hd, hL, e⟩ := soft_step hT hi (hs i _ (by omega) (by omega) hi)
      have hp := ih (by omega) (by omega) (fun k o h3 h4 h5 => hs k o h3 (by omega) h5)
      obtain ⟨f1, f2, f3⟩ := hL.fresh
      have := hp.ap hi hd (fun k hk _ => by omega) f2 f3
      rw [← e] at this
      exact this.congr (fun k => by omega)
end
end Go.Proofs.YtaopjdeigpiejaaDoor
namespace Go.Proofs.YtaopjdeigpiejaaDoor
open Go.RowKit
set_option linter.unusedVariables false

section
variable {P : Program} {τ : List (Nat × TyI)} {sf : List Nat} {ops : Array Oper} {st : Nat → St} {A : Nat → AV} {bs : Nat → List (Nat × Option Blk)}

theorem ordB_comm (B : List Nat) (i j : Nat) : ordB B i j = ordB B j i := by simp [ordB, Nat.max_comm, Nat.min_comm]
theorem lst_set {listed : Array Bool} {i k : Nat} (hi : i < listed.size) : Lst (listed.setIfInBounds i true) k ↔ Lst listed k ∨ k = i := by
  unfold Lst
  simp only [Array.getD_eq_getD_getElem?, Array.getElem?_setIfInBounds]
  by_cases h : i = k
  · subst h; simp [hi]
  · simp [h, Ne.symm h]
theorem not_lst {listed : Array Bool} {i : Nat} (h : listed.getD i true = false) : i < listed.size ∧ ¬ Lst listed i := by
  unfold Lst
  simp only [Array.getD_eq_getD_getElem?] at h ⊢
  cases hx : listed[i]? with
  | none => rw [hx] at h; cases h
  | some b => rw [hx] at h; cases (show b = false from h); exact ⟨(Array.getElem?_eq_some_iff.1 hx).1, by simp⟩
theorem lst_not {listed : Array Bool} {i : Nat} (hi : i < listed.size) (h : ¬ Lst listed i) : listed.getD i true = false := by
  unfold Lst at h
  simp only [Array.getD_eq_getD_getElem?, Array.getElem?_eq_getElem hi] at h ⊢
  simpa using h

/-- The operations of listed have come up, in whatever order. -/
structure Came (sf : List Nat) (ops : Array Oper) (st : Nat → St) (A : Nat → AV) (bs : Nat → List (Nat × Option Blk)) (E : Ent0) (listed : Array Bool) (a : Act) (w : World) : Prop where
  closed : Closed ops listed
  came : ∃ m, m ≤ ops.size ∧ (∀ k, k < m → Lst listed k) ∧ (∀ k, m ≤ k → Lst listed k → Soft sf ops m (k + 1)) ∧ ∃ t, Spec st A bs ops m (fun k => m ≤ k ∧ Lst listed k) t ∧ Den E t a w

theorem closed_set {listed : Array Bool} (hc : Closed ops listed) {i : Nat} {o : Oper} (hi : ops[i]? = some o) (hr : ∀ e ∈ o.after, Region.binds .any e = true → Lst listed e.on) : Closed ops (listed.setIfInBounds i true) := by
  have his : i < listed.size := by rw [hc.size]; exact (Array.getElem?_eq_some_iff.1 hi).1
  refine ⟨by simpa using hc.size, fun k o' hk hl e he hb => ?_⟩
  rw [lst_set his] at hl ⊢
  rcases hl with hl | rfl
  · exact .inl (hc.edges k o' hk hl e he hb)
  · rw [hi] at hk; cases hk; exact .inl (hr e he hb)

theorem came_step (hτ : TyOk P τ) (hT : ∀ i, i < ops.size → Tstep P τ sf ops i (st i) (st (i + 1)) (A i) (bs i)) {B : List Nat} (hB : certB ops.toList B = true) (hA : apartB sf ops ops.toList B = true) {E : Ent0} {listed : Array Bool} {a : Act} {w : World}
    (hC : Came sf ops st A bs E listed a w) {i : Nat} {o : Oper} (hi : ops[i]? = some o) (hun : ¬ Lst listed i) (hr : ∀ e ∈ o.after, Region.binds .any e = true → Lst listed e.on) (Q : Exit → Act → World → Prop) :
    if Region.wanted o (yielded ops a.tmps) then o.wp P a w (fun a' w' => Came sf ops st A bs E (listed.setIfInBounds i true) a' w') Q else Came sf ops st A bs E (listed.setIfInBounds i true) (a.put o.dst undef) w := by
  have hin : i < ops.size := (Array.getElem?_eq_some_iff.1 hi).1
  have his : i < listed.size := by rw [hC.closed.size]; exact hin
  have hcl := closed_set hC.closed hi hr
  obtain ⟨m, hm, hlow, hsoft, t, hS, hD⟩ := hC.came
  have hmi : m ≤ i := by
    rcases Nat.lt_or_ge i m with h | h
    · exact absurd (hlow i h) hun
    · exact h
  -- how a step's end is turned into what is asked
  have turn : ∀ (s' : St), Sstep P ops t o s' → (∀ a' w', Den E s' a' w' → Came sf ops st A bs E (listed.setIfInBounds i true) a' w') →
      if Region.wanted o (yielded ops a.tmps) then o.wp P a w (fun a' w' => Came sf ops st A bs E (listed.setIfInBounds i true) a' w') Q else Came sf ops st A bs E (listed.setIfInBounds i true) (a.put o.dst undef) w := by
    intro s' hst hfin
    have := hst E a w Q hD
    by_cases hw : Region.wanted o (yielded ops a.tmps) = true
    · rw [if_pos hw] at this ⊢
      exact Oper.wp_mono (fun a' w' h => hfin a' w' h) this
    · rw [if_neg hw] at this ⊢
      exact hfin _ _ this
  have inLex : ∀ {j k L x}, m ≤ k → k < j → j ≤ ops.size → Soft sf ops m j → lkb (bs k) L = some x → (st j).rblk L = some x := fun {j k L x} h1 h2 h3 h4 h5 => ((spec_text hT m j (by omega) h3 h4).blk L x).2 (.inr ⟨k, ⟨h1, h2⟩, h5⟩)
  have baseLex : ∀ {j L x}, m ≤ j → j ≤ ops.size → Soft sf ops m j → (st m).rblk L = some x → (st j).rblk L = some x := fun {j L x} h1 h3 h4 h5 => ((spec_text hT m j h1 h3 h4).blk L x).2 (.inl h5)
  have freshAt : ∀ {k L x}, m ≤ k → k < ops.size → Soft sf ops m (k + 1) → lkb (bs k) L = some x → (st k).rblk L = none := fun {k L x} h1 h2 h3 h4 => by
    have hk : ops[k]? = some ops[k] := Array.getElem?_eq_getElem h2
    obtain ⟨d, _, hL, _⟩ := soft_step hT hk (h3 k _ h1 (by omega) hk)
    exact hL.fresh.2.2 L x h4
  have ltn : ∀ {k}, Lst listed k → k < ops.size := fun {k} hk => by
    rw [← hC.closed.size]
    rcases Nat.lt_or_ge k listed.size with h | h
    · exact h
    · unfold Lst at hk; simp [Array.getElem?_eq_none h] at hk
  cases hso : solidB sf o with
  | true =>
    have ord : ∀ j, j < ops.size → j ≠ i → (j < i → Lst listed j) ∧ (Lst listed j → j < i) := fun j hj hne => by
      have hj' : ops[j]? = some ops[j] := Array.getElem?_eq_getElem hj
      exact ord_listed hB hC.closed hi hj' (Ne.symm hne) hun hr ((apart_at hA hi hj' (Ne.symm hne)).1 hso)
    have hsf : Soft sf ops m i := fun k o' h1 h2 h3 => hsoft k h1 ((ord k (by omega) (by omega)).1 h2) k o' h1 (by omega) h3
    have hS' : Spec st A bs ops m (fun k => m ≤ k ∧ k < i) t := hS.congr (fun k => ⟨fun h => ⟨h.1, (ord k (ltn h.2) (fun e => hun (e ▸ h.2))).2 h.2⟩, fun h => ⟨h.1, (ord k (by omega) (by omega)).1 h.2⟩⟩)
    have hDi : ∀ {a w}, Den E t a w → Den E (st i) a w := fun hd => hS'.same (spec_text hT m i hmi (by omega) hsf) hd
    obtain ⟨o', ho', hstep⟩ := hT i hin
    rw [hi] at ho'
    cases ho'
    rcases hstep with ⟨_, hss⟩ | ⟨h1, _⟩
    · refine turn (st (i + 1)) (fun E' a' w' Q' hd => ?_) (fun a' w' hd => ⟨hcl, i + 1, by omega, fun k hk => ?_, fun k hk hl => ?_, st (i + 1), ⟨rfl, fun r => .inr ⟨fun k hk => ?_, rfl⟩, fun L x => ⟨.inl, fun h => h.elim id (fun ⟨k, hk, _⟩ => ?_)⟩⟩, hd⟩)
      · exact hss E' a' w' Q' (hS'.same (spec_text hT m i hmi (by omega) hsf) hd)
      · rw [lst_set his]
        rcases Nat.lt_or_ge k i with h | h
        · exact .inl ((ord k (by omega) (by omega)).1 h)
        · exact .inr (by omega)
      · rw [lst_set his] at hl
        rcases hl with hl | rfl
        · have := (ord k (ltn hl) (by omega)).2 hl; omega
        · omega
      · have h2 := hk.2
        rw [lst_set his] at h2
        rcases h2 with hl | rfl
        · have := (ord k (ltn hl) (by omega)).2 hl; omega
        · omega
      · have h2 := hk.2
        rw [lst_set his] at h2
        rcases h2 with hl | rfl
        · have := (ord k (ltn hl) (by omega)).2 hl; omega
        · omega
    · rw [hso] at h1; cases h1
  | false =>
    obtain ⟨d, hd, hL, _⟩ := soft_step hT hi hso
    have hsf : Soft sf ops m i := fun k o' h1 h2 h3 => by
      cases hk : solidB sf o' with
      | false => rfl
      | true =>
        have hor := (apart_at hA h3 hi (by omega)).1 hk
        rw [ordB_comm] at hor
        have hl := (ord_listed hB hC.closed hi h3 (by omega) hun hr hor).1 h2
        rw [hsoft k h1 hl k o' h1 (by omega) h3] at hk; cases hk
    have hsf1 : Soft sf ops m (i + 1) := fun k o' h1 h2 h3 => by
      rcases Nat.lt_or_ge k i with h | h
      · exact hsf k o' h1 h h3
      · have : k = i := by omega
        subst this; rw [hi] at h3; cases h3; exact hso
    have hSi := spec_text hT m i hmi (by omega) hsf
    -- writers of what this operation touches
    have wrs : ∀ r, r ∈ touches ops o → ∀ k, k ≠ i → m ≤ k → Wr ops k r → ((k < i → Lst listed k) ∧ (Lst listed k → k < i)) := fun r hr' k hne hk ⟨o', h1, h2⟩ => by
      exact ord_listed hB hC.closed hi h1 (Ne.symm hne) hun hr ((apart_at hA hi h1 (Ne.symm hne)).2 r h2 hr')
    have slots : ∀ r, r ∈ touches ops o → (st i).slot r = t.slot r := fun r hr' => by
      rcases hSi.slot r with ⟨k, h1, h2, h3, h4⟩ | ⟨h1, h2⟩ <;> rcases hS.slot r with ⟨k', g1, g2, g3, g4⟩ | ⟨g1, g2⟩
      · have e1 : k' ≤ k := by
          have hk' : k' < i := (wrs r hr' k' (fun e => hun (e ▸ g1.2)) g1.1 g2).2 g1.2
          exact h3 k' ⟨g1.1, hk'⟩ g2
        have e2 : k ≤ k' := g3 k ⟨h1.1, (wrs r hr' k (by omega) h1.1 h2).1 h1.2⟩ h2
        have e : k = k' := by omega
        subst e; rw [h4, g4]
      · exact absurd h2 (g1 k ⟨h1.1, (wrs r hr' k (by omega) h1.1 h2).1 h1.2⟩)
      · exact absurd g2 (h1 k' ⟨g1.1, (wrs r hr' k' (fun e => hun (e ▸ g1.2)) g1.1 g2).2 g1.2⟩)
      · rw [h2, g2]
    obtain ⟨γ, hsim⟩ := id hD
    have hag : Agree (st i) t := by
      refine ⟨fun L x y hx hy => ?_, hsim.wf⟩
      rcases (hSi.blk L x).1 hx with h1 | ⟨k, h1, h2⟩ <;> rcases (hS.blk L y).1 hy with g1 | ⟨k', g1, g2⟩
      · rw [h1] at g1; cases g1; rfl
      · have hs' := hsoft k' g1.1 g1.2
        have hf := freshAt g1.1 (ltn g1.2) hs' g2
        rw [baseLex g1.1 (Nat.le_of_lt (ltn g1.2)) (fun j o' a1 a2 a3 => hs' j o' a1 (by omega) a3) h1] at hf; cases hf
      · have hf := freshAt h1.1 (by omega) (fun j o' a1 a2 a3 => hsf j o' a1 (by omega) a3) h2
        rw [baseLex h1.1 (by omega) (fun j o' a1 a2 a3 => hsf j o' a1 (by omega) a3) g1] at hf; cases hf
      · rcases Nat.lt_trichotomy k k' with hlt | heq | hgt
        · have hs' := hsoft k' g1.1 g1.2
          have hf := freshAt g1.1 (ltn g1.2) hs' g2
          rw [inLex h1.1 hlt (Nat.le_of_lt (ltn g1.2)) (fun j o' a1 a2 a3 => hs' j o' a1 (by omega) a3) h2] at hf; cases hf
        · subst heq; rw [h2] at g2; cases g2; rfl
        · have hf := freshAt h1.1 (by omega) (fun j o' a1 a2 a3 => hsf j o' a1 (by omega) a3) h2
          rw [inLex g1.1 hgt (by omega) (fun j o' a1 a2 a3 => hsf j o' a1 (by omega) a3) g2] at hf; cases hf
    have hfr : ∀ L x, lkb (bs i) L = some x → t.rblk L = none := fun L x hx => by
      have hf := freshAt hmi hin hsf1 hx
      cases hb : t.rblk L with
      | none => rfl
      | some y =>
        exfalso
        rcases (hS.blk L y).1 hb with h1 | ⟨k, h1, h2⟩
        · rw [baseLex hmi (by omega) hsf h1] at hf; cases hf
        · rcases Nat.lt_trichotomy k i with hlt | heq | hgt
          · rw [inLex h1.1 hlt (by omega) hsf h2] at hf; cases hf
          · exact hun (heq ▸ h1.2)
          · have hs' := hsoft k h1.1 h1.2
            have hf2 := freshAt h1.1 (ltn h1.2) hs' h2
            rw [inLex hmi hgt (Nat.le_of_lt (ltn h1.2)) (fun j o' a1 a2 a3 => hs' j o' a1 (by omega) a3) hx] at hf2; cases hf2
    have hops : ∀ x ∈ o.op.operands, (st i).ev x = t.ev x := fun x hx => by
      cases x with
      | tmp r => exact slots r (by
          unfold touches
          simp only [List.mem_append, List.mem_filterMap]
          exact .inl (.inr ⟨.tmp r, by simpa using hx, rfl⟩))
      | _ => rfl
    have hgs : ∀ j want dj, o.guard = some (j, want) → (ops[j]?).bind (·.dst) = some dj → (st i).slot dj = t.slot dj := fun j want dj hg hj => slots dj (by
      unfold touches
      simp only [hg, hj]
      simp)
    have hLt := hL.loc hag hops hgs (fun x => (ev_sound hsim x).2) (hSi.n.trans hS.n.symm) hfr
    refine turn _ (hLt.sound hτ hd) (fun a' w' hd' => ⟨hcl, m, hm, fun k hk => ?_, fun k hk hl => ?_, _, (hS.ap hi hd (fun k hk hw => ?_) hL.fresh.2.1 hfr).congr (fun k => ?_), hd'⟩)
    · rw [lst_set his]; exact .inl (hlow k hk)
    · rw [lst_set his] at hl
      rcases hl with hl | rfl
      · exact hsoft k hk hl
      · exact hsf1
    · by_cases e : k = i
      · omega
      · exact Nat.le_of_lt ((wrs d (by unfold touches; simp [hd]) k e hk.1 hw).2 hk.2)
    · rw [lst_set his]
      constructor
      · rintro (h | rfl)
        · exact ⟨h.1, .inl h.2⟩
        · exact ⟨hmi, .inr rfl⟩
      · rintro ⟨h1, h2 | rfl⟩
        · exact .inl ⟨h1, h2⟩
        · exact .inr rfl

def unl (ops : Array Oper) (listed : Array Bool) : Nat := (List.range ops.size).countP fun k => !(listed.getD k false)
theorem countP_one {l : List Nat} (hl : l.Nodup) {p q : Nat → Bool} {i : Nat} (hi : i ∈ l) (hp : p i = true) (hq : q i = false) (h : ∀ k, k ≠ i → q k = p k) : l.countP q + 1 = l.countP p := by
  induction l with
  | nil => cases hi
  | cons x l ih =>
    rw [List.nodup_cons] at hl
    by_cases e : x = i
    · subst e
      have : l.countP q = l.countP p := List.countP_congr (fun k hk => by rw [h k (fun e => hl.1 (e ▸ hk))])
      simp [hp, hq, this]
    · have hi' : i ∈ l := by rcases List.mem_cons.1 hi with h1 | h1; exact absurd h1.symm e; exact h1
      have := ih hl.2 hi'
      simp only [List.countP_cons, h x e]
      omega

theorem came_any (hτ : TyOk P τ) (hT : ∀ i, i < ops.size → Tstep P τ sf ops i (st i) (st (i + 1)) (A i) (bs i)) {B : List Nat} (hB : certB ops.toList B = true) (hA : apartB sf ops ops.toList B = true) {E : Ent0} {Q : Exit → Act → World → Prop}
    (hQ : ∀ a w, Den E (st ops.size) a w → Q .normal a w) : ∀ (fuel : Nat) (listed : Array Bool) (a : Act) (w : World), unl ops listed = fuel → Came sf ops st A bs E listed a w → wpAny P .any ops Q fuel listed a w := by
  have fin : ∀ (listed : Array Bool) (a : Act) (w : World), (∀ k, k < ops.size → Lst listed k) → Came sf ops st A bs E listed a w → Q .normal a w := by
    intro listed a w hall hC
    obtain ⟨m, hm, hlow, hsoft, t, hS, hD⟩ := hC.came
    have hsf : Soft sf ops m ops.size := fun k o h1 h2 h3 => hsoft k h1 (hall k h2) k o h1 (by omega) h3
    have hS' : Spec st A bs ops m (fun k => m ≤ k ∧ k < ops.size) t := hS.congr (fun k => ⟨fun h => ⟨h.1, by
      rw [← hC.closed.size]
      rcases Nat.lt_or_ge k listed.size with h' | h'
      · exact h'
      · have := h.2; unfold Lst at this; simp [Array.getElem?_eq_none h'] at this⟩, fun h => ⟨h.1, hall k h.2⟩⟩)
    exact hQ a w (hS'.same (spec_text hT m ops.size hm (Nat.le_refl _) hsf) hD)
  have none_ready : ∀ (listed : Array Bool), Closed ops listed → Region.ready .any ops listed = [] → ∀ k, k < ops.size → Lst listed k := by
    intro listed hc hr k
    induction k using Nat.strongRecOn with
    | _ k ih =>
      intro hk
      by_cases hl : Lst listed k
      · exact hl
      · exfalso
        have hk' : ops[k]? = some ops[k] := Array.getElem?_eq_getElem hk
        have : k ∈ Region.ready .any ops listed := mem_ready.2 ⟨lst_not (by rw [hc.size]; exact hk) hl, ops[k], hk', fun e he hb => by
          have hlt := (cert_at hB hk').2 e he hb
          exact ih e.on hlt (by omega)⟩
        rw [hr] at this; cases this
  intro fuel
  induction fuel with
  | zero =>
    intro listed a w hu hC
    have hall : ∀ k, k < ops.size → Lst listed k := fun k hk => by
      have := (List.countP_eq_zero.1 hu) k (by simpa using hk)
      simpa [Lst] using this
    refine ⟨?_, fin listed a w hall hC⟩
    rw [List.eq_nil_iff_forall_not_mem]
    intro i hi
    obtain ⟨h1, o, h2, _⟩ := mem_ready.1 hi
    exact (not_lst h1).2 (hall i (Array.getElem?_eq_some_iff.1 h2).1)
  | succ fuel ih =>
    intro listed a w hu hC
    refine ⟨fun hr => fin listed a w (none_ready listed hC.closed hr) hC, fun i hi => ?_⟩
    obtain ⟨h1, o, h2, h3⟩ := mem_ready.1 hi
    obtain ⟨his, hun⟩ := not_lst h1
    have hstep := came_step hτ hT hB hA hC h2 hun h3 Q
    have hu' : unl ops (listed.setIfInBounds i true) = fuel := by
      have hin : i < ops.size := (Array.getElem?_eq_some_iff.1 h2).1
      have := countP_one (l := List.range ops.size) List.nodup_range (p := fun k => !(listed.getD k false)) (q := fun k => !((listed.setIfInBounds i true).getD k false)) (i := i) (by simpa using hin) (by
        unfold Lst at hun; simpa using hun) (by simp [his]) (fun k hk => by
        simp [Array.getElem?_setIfInBounds_ne (Ne.symm hk)])
      unfold unl at hu ⊢
      omega
    unfold wpOp
    rw [h2]
    simp only
    by_cases hw : Region.wanted o (yielded ops a.tmps) = true
    · rw [if_pos hw] at hstep ⊢
      exact .inl (Oper.wp_mono (fun a' w' hc => ih _ a' w' hu' hc) hstep)
    · rw [if_neg hw] at hstep ⊢
      exact ih _ _ _ hu' hstep

/-- **The text's order serves for every order.** -/
theorem VC_draw (hτ : TyOk P τ) (hm : P.follows .mixedOrders = true) {rid : Nat} {K : Exit → St → Prop} {s : St} (hB : drawB sf ops = true) (h : Nx (opsVC P τ (some sf) ops ops.toList (fun s => K .normal s) s)) : VC P (.region rid ops true) K s := by
  refine ⟨fun E a w hd => ?_⟩
  obtain ⟨st, A, bs, e, hK, hT⟩ := trace_of hτ ops.toList 0 s (fun j => by simp) h.out
  simp only [drawB, Bool.and_eq_true] at hB
  simp only [Nat.zero_add, Array.length_toList] at hK hT
  refine wp_region_any hm (came_any hτ (fun i hi => hT i (Nat.zero_le _) hi) hB.1 hB.2 (fun a' w' hd' => ⟨_, hK, hd'⟩) _ _ a _ ?_ ?_)
  · unfold unl
    rw [List.countP_eq_length.2]
    · simp
    · intro k hk
      simp at hk
      simp [hk]
  · obtain ⟨γ, hs⟩ := hd
    have hs' : Sim E (st 0) a { w with drawn := w.drawn + 1 } γ := by rw [e]; exact hs.ext (Fr.drew w)
    have nol : ∀ k, ¬ Lst (Array.replicate ops.size false) k := fun k hk => by
      unfold Lst at hk
      simp only [Array.getD_eq_getD_getElem?, Array.getElem?_replicate] at hk
      split at hk <;> cases hk
    refine ⟨⟨by simp, fun k o hk hl => absurd hl (nol k)⟩, 0, Nat.zero_le _, fun k hk => by omega, fun k _ hl => absurd hl (nol k), st 0, ⟨rfl, fun r => .inr ⟨fun k hk => absurd hk.2 (nol k), rfl⟩, fun L x => ⟨.inl, fun h => h.elim id (fun ⟨k, hk, _⟩ => absurd hk.2 (nol k))⟩⟩, γ, hs'⟩
end
end Go.Proofs.YtaopjdeigpiejaaDoor
namespace Go.Proofs.YtaopjdeigpiejaaDoor
open Go.RowKit
set_option linter.unusedVariables false

def sw (L L' n : Nat) : Nat := bif Nat.beq n L then L' else bif Nat.beq n L' then L else n
theorem sw_sw (L L' n : Nat) : sw L L' (sw L L' n) = n := by
  unfold sw
  by_cases h1 : n = L
  · subst h1
    simp only [Nat.beq_refl, cond_true]
    by_cases h2 : L' = n
    · subst h2; simp
    · simp [beq_ne h2]
  · by_cases h2 : n = L'
    · subst h2; simp [beq_ne h1]
    · simp [beq_ne h1, beq_ne h2]
theorem sw_beq (L L' a b : Nat) : Nat.beq (sw L L' a) b = Nat.beq a (sw L L' b) := by
  by_cases h : a = sw L L' b
  · rw [h, sw_sw, Nat.beq_refl, Nat.beq_refl]
  · rw [beq_ne h, beq_ne (fun e => h (by rw [← e, sw_sw]))]
theorem sw_low {L L' n : Nat} (h : low ≤ L) (h' : low ≤ L') (hn : n < low) : sw L L' n = n := by
  unfold sw
  rw [beq_ne (by omega), beq_ne (by omega)]; rfl
def swN (L L' : Nat) (n : Nat) : Nm := rt (sw L L' n)
theorem swN_swN (L L' : Nat) (N : Nm) : (N.rn (swN L L')).rn (swN L L') = N := by
  obtain ⟨r, p⟩ := N
  simp [Nm.rn, swN, sw_sw]
def swapSl (ρ : Nat → Nm) : List (Nat × AV) → List (Nat × AV)
  | [] => []
  | p :: l => (p.1, p.2.rn ρ) :: swapSl ρ l
def swapBl (L L' : Nat) : List (Nat × Option Blk) → List (Nat × Option Blk)
  | [] => []
  | p :: l => (sw L L' p.1, (match p.2 with | some x => some (x.rn (swN L L')) | none => none)) :: swapBl L L' l
def St.swap (s : St) (L L' : Nat) : St := ⟨swapSl (swN L L') s.slots, swapBl L L' s.store, s.n⟩
theorem lks_swap {ρ : Nat → Nm} : ∀ {l : List (Nat × AV)} {t : Nat}, lks (swapSl ρ l) t = (lks l t).rn ρ := by
  intro l t
  induction l with
  | nil => rfl
  | cons p l ih =>
    unfold swapSl lks
    cases Nat.beq p.1 t with
    | true => rfl
    | false => exact ih
theorem lkb_swap {L L' : Nat} : ∀ {l : List (Nat × Option Blk)} {t : Nat}, lkb (swapBl L L' l) t = (lkb l (sw L L' t)).map (Blk.rn (swN L L')) := by
  intro l t
  induction l with
  | nil => rfl
  | cons p l ih =>
    obtain ⟨k, x⟩ := p
    show (bif Nat.beq (sw L L' k) t then _ else lkb (swapBl L L' l) t) = Option.map _ (bif Nat.beq k (sw L L' t) then x else lkb l (sw L L' t))
    rw [sw_beq]
    cases Nat.beq k (sw L L' t) with
    | true => cases x <;> rfl
    | false => exact ih
section
variable {E : Ent0} {w : World} {s : St} {a : Act} {γ : Nm → Value} {L L' : Nat}
theorem at_swap {N : Nm} {z : Blk} : (s.swap L L').at N z ↔ ∃ y, s.at (N.rn (swN L L')) y ∧ z = y.rn (swN L L') := by
  have e : (s.swap L L').rblk N.r = (s.rblk (sw L L' N.r)).map (Blk.rn (swN L L')) := lkb_swap
  have e2 : (N.rn (swN L L')).p = N.p := by simp [Nm.rn, swN]
  have e3 : (N.rn (swN L L')).r = sw L L' N.r := rfl
  unfold St.at AtL
  rw [e, e2, e3]
  constructor
  · rintro ⟨x, h1, h2⟩
    cases hx : s.rblk (sw L L' N.r) with
    | none => rw [hx] at h1; cases h1
    | some x0 =>
      rw [hx] at h1
      cases h1
      obtain ⟨y, h3, h4⟩ := at_rn.1 h2
      exact ⟨y, ⟨x0, rfl, h3⟩, h4⟩
  · rintro ⟨y, ⟨x0, h1, h3⟩, h4⟩
    exact ⟨x0.rn _, by rw [h1]; rfl, at_rn.2 ⟨y, h3, h4⟩⟩
theorem swap_own : (s.swap L L').own (fun N => γ (N.rn (swN L L'))) = s.own γ := by
  funext bk
  apply propext
  constructor
  · rintro ⟨N, x, h1, h2⟩
    obtain ⟨y, h3, _⟩ := at_swap.1 h1
    exact ⟨_, y, h3, h2⟩
  · rintro ⟨N, x, h1, h2⟩
    refine ⟨N.rn (swN L L'), x.rn (swN L L'), at_swap.2 ⟨x, by rw [swN_swN]; exact h1, rfl⟩, ?_⟩
    show blkOf (γ ((N.rn (swN L L')).rn (swN L L'))) = _
    rw [swN_swN]; exact h2
theorem gam_swap : (fun N => (fun M => γ (M.rn (swN L L'))) (N.rn (swN L L'))) = γ := by
  funext N
  show γ _ = _
  rw [swN_swN]
theorem rn_rn : ∀ {N M : Nm}, N.rn (swN L L') = M → N = M.rn (swN L L') := by
  rintro N M rfl
  rw [swN_swN]
theorem lv_swap {N : Nm} : (s.swap L L').lv N ↔ s.lv (N.rn (swN L L')) := by
  constructor
  · rintro ⟨x, h⟩
    obtain ⟨y, h3, _⟩ := at_swap.1 h
    exact ⟨y, h3⟩
  · rintro ⟨y, h⟩
    exact ⟨_, at_swap.2 ⟨y, h, rfl⟩⟩
theorem Sim.swap (h : Sim E s a w γ) (hL : low ≤ L) (hL' : low ≤ L') : Sim E (s.swap L L') a w (fun N => γ (N.rn (swN L L'))) := by
  refine ⟨h.size, h.defers, fun t => ?_, fun N x hN => ?_, fun N x bk hN hb => ?_, fun N M x y bk hN hM hb hc => ?_, ⟨fun t N hN => ?_, fun M x N hM hN => ?_⟩, fun l hl hv => ?_, h.fr⟩
  · rw [swap_own]
    show Reps w _ _ (lks (swapSl _ _) t) .o _
    rw [lks_swap, Reps.rn, gam_swap]
    exact h.slots t
  · obtain ⟨y, h1, rfl⟩ := at_swap.1 hN
    rw [swap_own]
    have e : N = (N.rn (swN L L')).rn (swN L L') := (swN_swN L L' N).symm
    rw [e, BlkOk.rn, gam_swap]
    exact h.blks _ _ h1
  · obtain ⟨y, h1, rfl⟩ := at_swap.1 hN
    exact h.mine _ _ bk h1 hb
  · obtain ⟨x', h1, rfl⟩ := at_swap.1 hN
    obtain ⟨y', h2, rfl⟩ := at_swap.1 hM
    have := h.inj _ _ _ _ bk h1 h2 hb hc
    have := congrArg (fun K => K.rn (swN L L')) this
    simpa [swN_swN] using this
  · have hN' : ((lks s.slots t).rn (swN L L')).has N := by rw [← lks_swap]; exact hN
    obtain ⟨M, h1, rfl⟩ := has_rn.1 hN'
    exact lv_swap.2 (by rw [swN_swN]; exact h.wf.slot t M h1)
  · obtain ⟨y, h1, rfl⟩ := at_swap.1 hM
    obtain ⟨M', h2, rfl⟩ := hasB_rn.1 hN
    exact lv_swap.2 (by rw [swN_swN]; exact h.wf.blk _ _ M' h1 h2)
  · have e : (rt l).rn (swN L L') = rt l := by rw [rn_rt]; show rt (sw L L' l) = _; rw [sw_low hL hL' hl]
    show γ ((rt l).rn (swN L L')) = _
    rw [e]
    exact h.hd l hl (by have := lv_swap.1 hv; rwa [e] at this)
theorem St.le_swap (hL : low ≤ L) (hL' : low ≤ L') : s.le (s.swap L L') := fun _ _ _ ⟨_, hs⟩ => ⟨_, hs.swap hL hL'⟩
end
def St.swaps (s : St) : List (Nat × Nat) → St
  | [] => s
  | p :: l => (s.swap p.1 p.2).swaps l
def swOk : List (Nat × Nat) → Bool
  | [] => true
  | p :: l => Nat.ble low p.1 && Nat.ble low p.2 && swOk l
theorem le_swaps : ∀ {l : List (Nat × Nat)} {s : St}, swOk l = true → s.le (s.swaps l)
  | [], s, _ => fun _ _ _ h => h
  | p :: l, s, h => by
    simp only [swOk, Bool.and_eq_true] at h
    intro E a w hd
    exact le_swaps h.2 E a w (St.le_swap (Nat.le_of_ble_eq_true h.1.1) (Nat.le_of_ble_eq_true h.1.2) E a w hd)
/-- A loop; at a round's end names are exchanged. -/
theorem loopW {P : Program} {τ : List (Nat × TyI)} (hτ : TyOk P τ) {c : Code} {K : Exit → St → Prop} {s : St} {ι : Type} (kl : List Nat) (l : ι → List (Nat × AV)) (b : ι → List (Nat × Option Blk)) (p : ι → Prop) (μ : ι → Nat) (i0 : ι) (h0 : p i0) (hs : (s.hd (dsts c) kl (l i0) (b i0)).force fun t => s.Le t)
    (round : ∀ i, p i → Nx ((s.hd (dsts c) kl (l i) (b i)).force fun t => vc P τ c (seqK (fun s' => ∃ i', p i' ∧ μ i' < μ i ∧ ∃ q, swOk q = true ∧ (s'.swaps q).force fun u => (s.hd (dsts c) kl (l i') (b i')).force fun t' => u.Le t') K) t)) : VC P (.loop c) K s := by
  simp only [forceS_eq] at hs round
  refine VC_loop hτ (fun i => s.hd (dsts c) kl (l i) (b i)) p μ (fun s' i' => ∃ q, swOk q = true ∧ (s'.swaps q).Le (s.hd (dsts c) kl (l i') (b i'))) ?_ i0 h0 hs.le round
  rintro s' i' ⟨q, h1, h2⟩ E a w hd
  exact h2.le E a w (le_swaps h1 E a w hd)
theorem VC_swaps {P : Program} {c : Code} {K : Exit → St → Prop} {s : St} (q : List (Nat × Nat)) (hq : swOk q = true) (h : (s.swaps q).force fun u => VC P c K u) : VC P c K s := by
  rw [forceS_eq] at h
  exact VC.le (le_swaps hq) h
end Go.Proofs.YtaopjdeigpiejaaDoor
namespace Go.Proofs.YtaopjdeigpiejaaDoor
open Go.RowKit
set_option linter.unusedVariables false

/-- As apartB, but the operations js (each taken as soon as it may come up) need not be ordered with a store behind them. -/
def apartB2 (sf : List Nat) (ops : Array Oper) (l : List Oper) (B : List Nat) (js : List Nat) : Bool :=
  l.zipIdx.all fun (o, i) => l.zipIdx.all fun (o', j) => Nat.beq i j || ((!(solidB sf o) || ordB B i j || (js.contains j && Nat.blt j i && o'.after.toList.all fun e => !Region.binds .any e || (B.getD i 0).testBit e.on)) && (match o'.dst with | some t => !((touches ops o).contains t) || ordB B i j | none => true))
/-- Operation j takes something out of a tuple; what is not ordered with it is apart from it. -/
def eagB (ops : Array Oper) (B : List Nat) (j : Nat) : Bool :=
  match ops[j]? with
  | some o =>
    (match o.dst, o.op, o.guard with
     | some _, .extract (.tmp _) _, none => ops.toList.zipIdx.all fun (o', k) => Nat.beq j k || (B.getD j 0).testBit k || o'.after.toList.any (fun e => Region.binds .any e && Nat.beq e.on j) || o.apart ops o'
     | _, _, _ => false)
  | none => false
def drawB2 (sf : List Nat) (ops : Array Oper) (js : List Nat) : Bool := let B := (Region.before ops).toList; certB ops.toList B && apartB2 sf ops ops.toList B js && js.all (eagB ops B) && Region.noSelect ops

section
variable {P : Program} {τ : List (Nat × TyI)} {sf : List Nat} {ops : Array Oper} {st : Nat → St} {A : Nat → AV} {bs : Nat → List (Nat × Option Blk)}

theorem apart_at2 {B : List Nat} {js : List Nat} (h : apartB2 sf ops ops.toList B js = true) {i j : Nat} {o o' : Oper} (hi : ops[i]? = some o) (hj : ops[j]? = some o') (hij : i ≠ j) :
    (solidB sf o = true → ordB B i j = true ∨ (js.contains j = true ∧ j < i ∧ ∀ e ∈ o'.after, Region.binds .any e = true → (B.getD i 0).testBit e.on = true)) ∧ ∀ t, o'.dst = some t → t ∈ touches ops o → ordB B i j = true := by
  have m1 : (o, i) ∈ ops.toList.zipIdx := by rw [List.mem_zipIdx_iff_getElem?]; simpa using hi
  have m2 : (o', j) ∈ ops.toList.zipIdx := by rw [List.mem_zipIdx_iff_getElem?]; simpa using hj
  have := (List.all_eq_true.1 ((List.all_eq_true.1 h) _ m1)) _ m2
  simp only [Bool.or_eq_true, Bool.and_eq_true] at this
  rcases this with h1 | ⟨h1, h2⟩
  · exact absurd (Nat.eq_of_beq_eq_true h1) hij
  · refine ⟨fun hs => ?_, fun t ht hm => ?_⟩
    · rcases h1 with (h1 | h1) | ⟨⟨h1, h3⟩, h4⟩
      · rw [hs] at h1; cases h1
      · exact .inl h1
      · refine .inr ⟨h1, blt_pos h3, fun e he hb => ?_⟩
        have := (List.all_eq_true.1 h4) e (by simpa using he)
        rw [hb] at this
        simpa using this
    · rw [ht] at h2
      simp only [Bool.or_eq_true] at h2
      rcases h2 with h2 | h2
      · simp at h2; exact absurd hm h2
      · exact h2
theorem came_step2 (hτ : TyOk P τ) (hT : ∀ i, i < ops.size → Tstep P τ sf ops i (st i) (st (i + 1)) (A i) (bs i)) {B : List Nat} (hB : certB ops.toList B = true) {js : List Nat} (hA : apartB2 sf ops ops.toList B js = true) {E : Ent0} {listed : Array Bool} {a : Act} {w : World}
    (hC : Came sf ops st A bs E listed a w) {i : Nat} {o : Oper} (hi : ops[i]? = some o) (hun : ¬ Lst listed i) (hr : ∀ e ∈ o.after, Region.binds .any e = true → Lst listed e.on) (hE : solidB sf o = true → ∀ j oj, js.contains j = true → ops[j]? = some oj → (∀ e ∈ oj.after, Region.binds .any e = true → Lst listed e.on) → Lst listed j) (Q : Exit → Act → World → Prop) :
    if Region.wanted o (yielded ops a.tmps) then o.wp P a w (fun a' w' => Came sf ops st A bs E (listed.setIfInBounds i true) a' w') Q else Came sf ops st A bs E (listed.setIfInBounds i true) (a.put o.dst undef) w := by
  have hin : i < ops.size := (Array.getElem?_eq_some_iff.1 hi).1
  have his : i < listed.size := by rw [hC.closed.size]; exact hin
  have hcl := closed_set hC.closed hi hr
  obtain ⟨m, hm, hlow, hsoft, t, hS, hD⟩ := hC.came
  have hmi : m ≤ i := by
    rcases Nat.lt_or_ge i m with h | h
    · exact absurd (hlow i h) hun
    · exact h
  -- how a step's end is turned into what is asked
  have turn : ∀ (s' : St), Sstep P ops t o s' → (∀ a' w', Den E s' a' w' → Came sf ops st A bs E (listed.setIfInBounds i true) a' w') →
      if Region.wanted o (yielded ops a.tmps) then o.wp P a w (fun a' w' => Came sf ops st A bs E (listed.setIfInBounds i true) a' w') Q else Came sf ops st A bs E (listed.setIfInBounds i true) (a.put o.dst undef) w := by
    intro s' hst hfin
    have := hst E a w Q hD
    by_cases hw : Region.wanted o (yielded ops a.tmps) = true
    · rw [if_pos hw] at this ⊢
      exact Oper.wp_mono (fun a' w' h => hfin a' w' h) this
    · rw [if_neg hw] at this ⊢
      exact hfin _ _ this
  have inLex : ∀ {j k L x}, m ≤ k → k < j → j ≤ ops.size → Soft sf ops m j → lkb (bs k) L = some x → (st j).rblk L = some x := fun {j k L x} h1 h2 h3 h4 h5 => ((spec_text hT m j (by omega) h3 h4).blk L x).2 (.inr ⟨k, ⟨h1, h2⟩, h5⟩)
  have baseLex : ∀ {j L x}, m ≤ j → j ≤ ops.size → Soft sf ops m j → (st m).rblk L = some x → (st j).rblk L = some x := fun {j L x} h1 h3 h4 h5 => ((spec_text hT m j h1 h3 h4).blk L x).2 (.inl h5)
  have freshAt : ∀ {k L x}, m ≤ k → k < ops.size → Soft sf ops m (k + 1) → lkb (bs k) L = some x → (st k).rblk L = none := fun {k L x} h1 h2 h3 h4 => by
    have hk : ops[k]? = some ops[k] := Array.getElem?_eq_getElem h2
    obtain ⟨d, _, hL, _⟩ := soft_step hT hk (h3 k _ h1 (by omega) hk)
    exact hL.fresh.2.2 L x h4
  have ltn : ∀ {k}, Lst listed k → k < ops.size := fun {k} hk => by
    rw [← hC.closed.size]
    rcases Nat.lt_or_ge k listed.size with h | h
    · exact h
    · unfold Lst at hk; simp [Array.getElem?_eq_none h] at hk
  cases hso : solidB sf o with
  | true =>
    have ord : ∀ j, j < ops.size → j ≠ i → (j < i → Lst listed j) ∧ (Lst listed j → j < i) := fun j hj hne => by
      have hj' : ops[j]? = some ops[j] := Array.getElem?_eq_getElem hj
      rcases (apart_at2 hA hi hj' (Ne.symm hne)).1 hso with h9 | ⟨h8, h9, h10⟩
      · exact ord_listed hB hC.closed hi hj' (Ne.symm hne) hun hr h9
      · exact ⟨fun _ => hE hso j _ h8 hj' (fun e he hb => ahead_listed hB hC.closed i o hi hr _ (h10 e he hb)), fun _ => h9⟩
    have hsf : Soft sf ops m i := fun k o' h1 h2 h3 => hsoft k h1 ((ord k (by omega) (by omega)).1 h2) k o' h1 (by omega) h3
    have hS' : Spec st A bs ops m (fun k => m ≤ k ∧ k < i) t := hS.congr (fun k => ⟨fun h => ⟨h.1, (ord k (ltn h.2) (fun e => hun (e ▸ h.2))).2 h.2⟩, fun h => ⟨h.1, (ord k (by omega) (by omega)).1 h.2⟩⟩)
    have hDi : ∀ {a w}, Den E t a w → Den E (st i) a w := fun hd => hS'.same (spec_text hT m i hmi (by omega) hsf) hd
    obtain ⟨o', ho', hstep⟩ := hT i hin
    rw [hi] at ho'
    cases ho'
    rcases hstep with ⟨_, hss⟩ | ⟨h1, _⟩
    · refine turn (st (i + 1)) (fun E' a' w' Q' hd => ?_) (fun a' w' hd => ⟨hcl, i + 1, by omega, fun k hk => ?_, fun k hk hl => ?_, st (i + 1), ⟨rfl, fun r => .inr ⟨fun k hk => ?_, rfl⟩, fun L x => ⟨.inl, fun h => h.elim id (fun ⟨k, hk, _⟩ => ?_)⟩⟩, hd⟩)
      · exact hss E' a' w' Q' (hS'.same (spec_text hT m i hmi (by omega) hsf) hd)
      · rw [lst_set his]
        rcases Nat.lt_or_ge k i with h | h
        · exact .inl ((ord k (by omega) (by omega)).1 h)
        · exact .inr (by omega)
      · rw [lst_set his] at hl
        rcases hl with hl | rfl
        · have := (ord k (ltn hl) (by omega)).2 hl; omega
        · omega
      · have h2 := hk.2
        rw [lst_set his] at h2
        rcases h2 with hl | rfl
        · have := (ord k (ltn hl) (by omega)).2 hl; omega
        · omega
      · have h2 := hk.2
        rw [lst_set his] at h2
        rcases h2 with hl | rfl
        · have := (ord k (ltn hl) (by omega)).2 hl; omega
        · omega
    · rw [hso] at h1; cases h1
  | false =>
    obtain ⟨d, hd, hL, _⟩ := soft_step hT hi hso
    have hsf : Soft sf ops m i := fun k o' h1 h2 h3 => by
      cases hk : solidB sf o' with
      | false => rfl
      | true =>
        have hor : ordB B k i = true := by
          rcases (apart_at2 hA h3 hi (by omega)).1 hk with h9 | ⟨_, h9, _⟩
          · exact h9
          · omega
        rw [ordB_comm] at hor
        have hl := (ord_listed hB hC.closed hi h3 (by omega) hun hr hor).1 h2
        rw [hsoft k h1 hl k o' h1 (by omega) h3] at hk; cases hk
    have hsf1 : Soft sf ops m (i + 1) := fun k o' h1 h2 h3 => by
      rcases Nat.lt_or_ge k i with h | h
      · exact hsf k o' h1 h h3
      · have : k = i := by omega
        subst this; rw [hi] at h3; cases h3; exact hso
    have hSi := spec_text hT m i hmi (by omega) hsf
    -- writers of what this operation touches
    have wrs : ∀ r, r ∈ touches ops o → ∀ k, k ≠ i → m ≤ k → Wr ops k r → ((k < i → Lst listed k) ∧ (Lst listed k → k < i)) := fun r hr' k hne hk ⟨o', h1, h2⟩ => by
      exact ord_listed hB hC.closed hi h1 (Ne.symm hne) hun hr ((apart_at2 hA hi h1 (Ne.symm hne)).2 r h2 hr')
    have slots : ∀ r, r ∈ touches ops o → (st i).slot r = t.slot r := fun r hr' => by
      rcases hSi.slot r with ⟨k, h1, h2, h3, h4⟩ | ⟨h1, h2⟩ <;> rcases hS.slot r with ⟨k', g1, g2, g3, g4⟩ | ⟨g1, g2⟩
      · have e1 : k' ≤ k := by
          have hk' : k' < i := (wrs r hr' k' (fun e => hun (e ▸ g1.2)) g1.1 g2).2 g1.2
          exact h3 k' ⟨g1.1, hk'⟩ g2
        have e2 : k ≤ k' := g3 k ⟨h1.1, (wrs r hr' k (by omega) h1.1 h2).1 h1.2⟩ h2
        have e : k = k' := by omega
        subst e; rw [h4, g4]
      · exact absurd h2 (g1 k ⟨h1.1, (wrs r hr' k (by omega) h1.1 h2).1 h1.2⟩)
      · exact absurd g2 (h1 k' ⟨g1.1, (wrs r hr' k' (fun e => hun (e ▸ g1.2)) g1.1 g2).2 g1.2⟩)
      · rw [h2, g2]
    obtain ⟨γ, hsim⟩ := id hD
    have hag : Agree (st i) t := by
      refine ⟨fun L x y hx hy => ?_, hsim.wf⟩
      rcases (hSi.blk L x).1 hx with h1 | ⟨k, h1, h2⟩ <;> rcases (hS.blk L y).1 hy with g1 | ⟨k', g1, g2⟩
      · rw [h1] at g1; cases g1; rfl
      · have hs' := hsoft k' g1.1 g1.2
        have hf := freshAt g1.1 (ltn g1.2) hs' g2
        rw [baseLex g1.1 (Nat.le_of_lt (ltn g1.2)) (fun j o' a1 a2 a3 => hs' j o' a1 (by omega) a3) h1] at hf; cases hf
      · have hf := freshAt h1.1 (by omega) (fun j o' a1 a2 a3 => hsf j o' a1 (by omega) a3) h2
        rw [baseLex h1.1 (by omega) (fun j o' a1 a2 a3 => hsf j o' a1 (by omega) a3) g1] at hf; cases hf
      · rcases Nat.lt_trichotomy k k' with hlt | heq | hgt
        · have hs' := hsoft k' g1.1 g1.2
          have hf := freshAt g1.1 (ltn g1.2) hs' g2
          rw [inLex h1.1 hlt (Nat.le_of_lt (ltn g1.2)) (fun j o' a1 a2 a3 => hs' j o' a1 (by omega) a3) h2] at hf; cases hf
        · subst heq; rw [h2] at g2; cases g2; rfl
        · have hf := freshAt h1.1 (by omega) (fun j o' a1 a2 a3 => hsf j o' a1 (by omega) a3) h2
          rw [inLex g1.1 hgt (by omega) (fun j o' a1 a2 a3 => hsf j o' a1 (by omega) a3) g2] at hf; cases hf
    have hfr : ∀ L x, lkb (bs i) L = some x → t.rblk L = none := fun L x hx => by
      have hf := freshAt hmi hin hsf1 hx
      cases hb : t.rblk L with
      | none => rfl
      | some y =>
        exfalso
        rcases (hS.blk L y).1 hb with h1 | ⟨k, h1, h2⟩
        · rw [baseLex hmi (by omega) hsf h1] at hf; cases hf
        · rcases Nat.lt_trichotomy k i with hlt | heq | hgt
          · rw [inLex h1.1 hlt (by omega) hsf h2] at hf; cases hf
          · exact hun (heq ▸ h1.2)
          · have hs' := hsoft k h1.1 h1.2
            have hf2 := freshAt h1.1 (ltn h1.2) hs' h2
            rw [inLex hmi hgt (Nat.le_of_lt (ltn h1.2)) (fun j o' a1 a2 a3 => hs' j o' a1 (by omega) a3) hx] at hf2; cases hf2
    have hops : ∀ x ∈ o.op.operands, (st i).ev x = t.ev x := fun x hx => by
      cases x with
      | tmp r => exact slots r (by
          unfold touches
          simp only [List.mem_append, List.mem_filterMap]
          exact .inl (.inr ⟨.tmp r, by simpa using hx, rfl⟩))
      | _ => rfl
    have hgs : ∀ j want dj, o.guard = some (j, want) → (ops[j]?).bind (·.dst) = some dj → (st i).slot dj = t.slot dj := fun j want dj hg hj => slots dj (by
      unfold touches
      simp only [hg, hj]
      simp)
    have hLt := hL.loc hag hops hgs (fun x => (ev_sound hsim x).2) (hSi.n.trans hS.n.symm) hfr
    refine turn _ (hLt.sound hτ hd) (fun a' w' hd' => ⟨hcl, m, hm, fun k hk => ?_, fun k hk hl => ?_, _, (hS.ap hi hd (fun k hk hw => ?_) hL.fresh.2.1 hfr).congr (fun k => ?_), hd'⟩)
    · rw [lst_set his]; exact .inl (hlow k hk)
    · rw [lst_set his] at hl
      rcases hl with hl | rfl
      · exact hsoft k hk hl
      · exact hsf1
    · by_cases e : k = i
      · omega
      · exact Nat.le_of_lt ((wrs d (by unfold touches; simp [hd]) k e hk.1 hw).2 hk.2)
    · rw [lst_set his]
      constructor
      · rintro (h | rfl)
        · exact ⟨h.1, .inl h.2⟩
        · exact ⟨hmi, .inr rfl⟩
      · rintro ⟨h1, h2 | rfl⟩
        · exact .inl ⟨h1, h2⟩
        · exact .inr rfl


/-- What is taken out of a tuple. -/
theorem extract_yields {o : Oper} {a : Act} {w : World} {d t n : Nat} {K : Act → World → Prop} {Q : Exit → Act → World → Prop} (hd : o.dst = some d) (ho : o.op = .extract (.tmp t) n) (hg : o.guard = none) (hQ : ∀ c a w, ¬ Q (.panic c) a w)
    (h : o.wp P a w K Q) : ∃ v, Go.Yields P ops o v a ∧ K (a.put o.dst v) w := by
  have hw : Region.wanted o (yielded ops a.tmps) = true := by simp [Region.wanted, hg]
  unfold Oper.wp at h
  simp only [execOp, ho] at h
  cases he : a.eval (.tmp t) with
  | tuple vs =>
    rw [he] at h
    simp only [Instr.extract] at h
    cases hv : vs[n]? with
    | none => simp [hv, Oper.upon] at h
    | some v =>
      simp [hv, Oper.upon] at h
      exact ⟨v, .inl ⟨hw, fun w' => by simp [execOp, ho, he, Instr.extract, hv]⟩, h⟩
  | _ => rw [he] at h; simp [Instr.extract, Oper.upon] at h

theorem came_any2 (hτ : TyOk P τ) (hT : ∀ i, i < ops.size → Tstep P τ sf ops i (st i) (st (i + 1)) (A i) (bs i)) {B : List Nat} (hB : certB ops.toList B = true) {js : List Nat} (hA : apartB2 sf ops ops.toList B js = true) (hJ : js.all (eagB ops B) = true) (hN : Region.noSelect ops = true) {E : Ent0} {Q : Exit → Act → World → Prop}
    (hQp : ∀ c a w, ¬ Q (.panic c) a w) (hQ : ∀ a w, Den E (st ops.size) a w → Q .normal a w) : ∀ (fuel : Nat) (listed : Array Bool) (a : Act) (w : World), unl ops listed = fuel → Came sf ops st A bs E listed a w → wpAny P .any ops Q fuel listed a w := by
  have fin : ∀ (listed : Array Bool) (a : Act) (w : World), (∀ k, k < ops.size → Lst listed k) → Came sf ops st A bs E listed a w → Q .normal a w := by
    intro listed a w hall hC
    obtain ⟨m, hm, hlow, hsoft, t, hS, hD⟩ := hC.came
    have hsf : Soft sf ops m ops.size := fun k o h1 h2 h3 => hsoft k h1 (hall k h2) k o h1 (by omega) h3
    have hS' : Spec st A bs ops m (fun k => m ≤ k ∧ k < ops.size) t := hS.congr (fun k => ⟨fun h => ⟨h.1, by
      rw [← hC.closed.size]
      rcases Nat.lt_or_ge k listed.size with h' | h'
      · exact h'
      · have := h.2; unfold Lst at this; simp [Array.getElem?_eq_none h'] at this⟩, fun h => ⟨h.1, hall k h.2⟩⟩)
    exact hQ a w (hS'.same (spec_text hT m ops.size hm (Nat.le_refl _) hsf) hD)
  have none_ready : ∀ (listed : Array Bool), Closed ops listed → Region.ready .any ops listed = [] → ∀ k, k < ops.size → Lst listed k := by
    intro listed hc hr k
    induction k using Nat.strongRecOn with
    | _ k ih =>
      intro hk
      by_cases hl : Lst listed k
      · exact hl
      · exfalso
        have hk' : ops[k]? = some ops[k] := Array.getElem?_eq_getElem hk
        have : k ∈ Region.ready .any ops listed := mem_ready.2 ⟨lst_not (by rw [hc.size]; exact hk) hl, ops[k], hk', fun e he hb => by
          have hlt := (cert_at hB hk').2 e he hb
          exact ih e.on hlt (by omega)⟩
        rw [hr] at this; cases this
  intro fuel
  induction fuel with
  | zero =>
    intro listed a w hu hC
    have hall : ∀ k, k < ops.size → Lst listed k := fun k hk => by
      have := (List.countP_eq_zero.1 hu) k (by simpa using hk)
      simpa [Lst] using this
    refine ⟨?_, fin listed a w hall hC⟩
    rw [List.eq_nil_iff_forall_not_mem]
    intro i hi
    obtain ⟨h1, o, h2, _⟩ := mem_ready.1 hi
    exact (not_lst h1).2 (hall i (Array.getElem?_eq_some_iff.1 h2).1)
  | succ fuel ih =>
    intro listed a w hu hC
    have dec : ∀ i, i < ops.size → ¬ Lst listed i → i < listed.size → unl ops (listed.setIfInBounds i true) = fuel := fun i hin hun his => by
      have := countP_one (l := List.range ops.size) List.nodup_range (p := fun k => !(listed.getD k false)) (q := fun k => !((listed.setIfInBounds i true).getD k false)) (i := i) (by simpa using hin) (by
        unfold Lst at hun; simpa using hun) (by simp [his]) (fun k hk => by
        simp [Array.getElem?_setIfInBounds_ne (Ne.symm hk)])
      unfold unl at hu ⊢
      omega
    by_cases he : ∃ j, js.contains j = true ∧ j ∈ Region.ready .any ops listed
    · obtain ⟨j, hj, hjr⟩ := he
      obtain ⟨h1, o, h2, h3⟩ := mem_ready.1 hjr
      obtain ⟨his, hun⟩ := not_lst h1
      have hin : j < ops.size := (Array.getElem?_eq_some_iff.1 h2).1
      have hej := (List.all_eq_true.1 hJ) j (by simpa using hj)
      unfold eagB at hej
      rw [h2] at hej
      simp only at hej
      split at hej
      · rename_i d t n hd ho hg
        have hns : solidB sf o = false := by simp [solidB, hd, ho]
        have hstep := came_step2 hτ hT hB hA hC h2 hun h3 (fun h => by rw [hns] at h; cases h) Q
        have hw : Region.wanted o (yielded ops a.tmps) = true := by simp [Region.wanted, hg]
        rw [if_pos hw] at hstep
        obtain ⟨v, hy, hC'⟩ := extract_yields (ops := ops) hd ho hg hQp hstep
        refine wpAny_first h2 (Region.noSelect_spec hN) (fun c a w h => absurd h (hQp c _ w)) fuel listed a w (fun k ok hk hkj hku hno => ?_) hjr hy (ih _ _ w (dec j hin hun his) hC')
        have hm : (ok, k) ∈ ops.toList.zipIdx := by rw [List.mem_zipIdx_iff_getElem?]; simpa using hk
        have := (List.all_eq_true.1 hej) _ hm
        simp only [Bool.or_eq_true] at this
        rcases this with ((h4 | h4) | h4) | h4
        · exact absurd (Nat.eq_of_beq_eq_true h4).symm hkj
        · exact absurd (ahead_listed hB hC.closed j o h2 h3 k h4) (not_lst hku).2
        · obtain ⟨e, he1, he2⟩ := List.any_eq_true.1 h4
          simp only [Bool.and_eq_true] at he2
          exact absurd (Nat.eq_of_beq_eq_true he2.2) (hno e (by simpa using he1) he2.1)
        · exact h4
      · cases hej
    · refine ⟨fun hr => fin listed a w (none_ready listed hC.closed hr) hC, fun i hi => ?_⟩
      obtain ⟨h1, o, h2, h3⟩ := mem_ready.1 hi
      obtain ⟨his, hun⟩ := not_lst h1
      have hin : i < ops.size := (Array.getElem?_eq_some_iff.1 h2).1
      have hstep := came_step2 hτ hT hB hA hC h2 hun h3 (fun _ j oj hj hoj hjp => by
        refine Classical.byContradiction (fun hl => he ⟨j, hj, mem_ready.2 ⟨lst_not (by rw [hC.closed.size]; exact (Array.getElem?_eq_some_iff.1 hoj).1) hl, oj, hoj, hjp⟩⟩)) Q
      unfold wpOp
      rw [h2]
      simp only
      by_cases hw : Region.wanted o (yielded ops a.tmps) = true
      · rw [if_pos hw] at hstep ⊢
        exact .inl (Oper.wp_mono (fun a' w' hc => ih _ a' w' (dec i hin hun his) hc) hstep)
      · rw [if_neg hw] at hstep ⊢
        exact ih _ _ _ (dec i hin hun his) hstep

/-- **The text's order serves for every order**; js: what is taken out of tuples. -/
theorem VC_draw2 (hτ : TyOk P τ) (hm : P.follows .mixedOrders = true) {rid : Nat} {K : Exit → St → Prop} {s : St} (js : List Nat) (hB : drawB2 sf ops js = true) (h : Nx (opsVC P τ (some sf) ops ops.toList (fun s => K .normal s) s)) : VC P (.region rid ops true) K s := by
  refine ⟨fun E a w hd => ?_⟩
  obtain ⟨st, A, bs, e, hK, hT⟩ := trace_of hτ ops.toList 0 s (fun j => by simp) h.out
  simp only [drawB2, Bool.and_eq_true] at hB
  simp only [Nat.zero_add, Array.length_toList] at hK hT
  refine wp_mono (wp_region_any (Q := fun e a w => e = .normal ∧ PostK E K .normal a w) hm (came_any2 hτ (fun i hi => hT i (Nat.zero_le _) hi) hB.1.1.1 hB.1.1.2 hB.1.2 hB.2 (fun c a w h => by cases h.1) (fun a' w' hd' => ⟨rfl, _, hK, hd'⟩) _ _ a _ ?_ ?_)) (fun e a w h => by obtain ⟨rfl, h⟩ := h; exact h)
  · unfold unl
    rw [List.countP_eq_length.2]
    · simp
    · intro k hk
      simp at hk
      simp [hk]
  · obtain ⟨γ, hs⟩ := hd
    have hs' : Sim E (st 0) a { w with drawn := w.drawn + 1 } γ := by rw [e]; exact hs.ext (Fr.drew w)
    have nol : ∀ k, ¬ Lst (Array.replicate ops.size false) k := fun k hk => by
      unfold Lst at hk
      simp only [Array.getD_eq_getD_getElem?, Array.getElem?_replicate] at hk
      split at hk <;> cases hk
    refine ⟨⟨by simp, fun k o hk hl => absurd hl (nol k)⟩, 0, Nat.zero_le _, fun k hk => by omega, fun k _ hl => absurd hl (nol k), st 0, ⟨rfl, fun r => .inr ⟨fun k hk => absurd hk.2 (nol k), rfl⟩, fun L x => ⟨.inl, fun h => h.elim id (fun ⟨k, hk, _⟩ => absurd hk.2 (nol k))⟩⟩, γ, hs'⟩
def exts (ops : Array Oper) : List Nat := ops.toList.zipIdx.filterMap fun (o, i) => match o.op with | .extract _ _ => some i | _ => none
end
theorem VC_draw3 {P : Program} {τ : List (Nat × TyI)} {sf : List Nat} {ops : Array Oper} (hτ : TyOk P τ) (hm : P.follows .mixedOrders = true) {rid : Nat} {K : Exit → St → Prop} {s : St} (hB : drawB2 sf ops (exts ops) = true) (h : Nx (opsVC P τ (some sf) ops ops.toList (fun s => K .normal s) s)) : VC P (.region rid ops true) K s := VC_draw2 hτ hm (exts ops) hB h
end Go.Proofs.YtaopjdeigpiejaaDoor
namespace Go.Proofs.YtaopjdeigpiejaaDoor
open Go.ChangeShapes Go.WideShapes Go.ChangeAt Go.RowKit

theorem own : ownKnob Tryd.prog.godebug = none := by kernel_rfl
theorem laidOut : laidOutB Tryd.prog = true := by kernel_rfl

section
variable {H : Type} {enc : TypeId × Value → H} {P : Program}
theorem post_of_below {f : Func} {s : ChangeSpec} {apart fresh handsOn again : Bool} {W W' : World} {args : Array Value} {v : Value} {ds gs : List (DataW H)} {before pa pv : List MemPlace}
    (hW : DataW.Whole enc P f.params.toList s.vars apart W args.toList ds gs before)
    (hres : ∀ (b : Nat) (sp : Nat → Bool) (hd : Bool), DataW.TrodAll enc P W' b sp hd f.resultTypes.toList (v.resultList f.resultTypes.size) (s.fn H (ds ++ gs)).results [])
    (hargs : ∀ sp : Nat → Bool, (∀ p ∈ before, sp p.block = true) → DataW.TrodAll enc P W' 0 sp true f.params.toList args.toList (s.fn H (ds ++ gs)).args pa)
    (hvars : ∀ sp : Nat → Bool, (∀ p ∈ before, sp p.block = true) → DataW.TrodVars enc P W' sp s.vars (s.fn H (ds ++ gs)).vars pv)
    (hps : before = pa ++ pv) (hb : Below W.heap.size W W')
    (hok : ∀ (j : Nat) (t : TypeId) (r : Value), f.resultTypes[j]? = some t → (v.resultList f.resultTypes.size)[j]? = some r → Value.okWide P W' .any 0 t r) :
    s.post enc P f apart fresh handsOn again W args v W' := by
  have hlt : ∀ p ∈ before, p.block < W.heap.size := fun p hp => hW.lt p hp
  have hold : ∀ p ∈ before, (fun b => decide (b < W.heap.size)) p.block = true := fun p hp => by simpa using hlt p hp
  refine ⟨ds, gs, before, [], pa, pv, hW, hres _ _ _, hargs _ hold, hvars _ hold, World.keptBut_mono (fun p hp => ⟨hp, ?_⟩) (hb.frame (· ∈ before)), fun _ => ?_⟩
  · rw [hps, List.mem_append] at hp
    exact Or.inr hp
  · obtain ⟨_, _, _, _, _, hz, hn⟩ := hW
    refine ⟨hok, _, _, ([] ++ pa) ++ pv, ⟨[] ++ pa, pv, trodAll_append (hargs _ (fun _ _ => rfl)) (hres _ _ _), hvars _ (fun _ _ => rfl), rfl, ?_, ?_⟩, ?_⟩
    · intro b off hp
      have hin : MemPlace.cell b off ∈ before := by rw [hps]; simpa using hp
      rw [hb.frozen (hlt _ hin)]
      exact hz b off hin
    · intro ha
      have := hn ha
      rw [hps] at this
      simpa using this
    · intro p hp _
      rw [hps]
      simpa using hp

theorem trodAll_stays (hl : laidOutB P = true) {W W' : World} {sp' : Nat → Bool} : ∀ {ts : List TypeId} {vs : List Value} {ds : List (DataW H)} {ps : List MemPlace},
    (ts.all fun t => P.readableRec t && decide (t < P.types.size)) = true → DataW.TrodAll enc P W 0 (fun _ => true) true ts vs ds ps → (∀ p ∈ ps, W.sameAt W' p) → (∀ p ∈ ps, sp' p.block = true) →
    DataW.TrodAll enc P W' 0 sp' true ts vs ds ps
  | [], [], [], _, _, h, _, _ => h
  | t :: ts, v :: vs, d :: ds, ps, hr, h, hsame, hs => by
    obtain ⟨p, q, h1, h2, rfl⟩ := h
    simp only [List.all_cons, Bool.and_eq_true, decide_eq_true_eq] at hr
    exact ⟨p, q, WideElems.Trod_stays hl hr.1.1 hr.1.2 h1 (fun x hx => hsame x (List.mem_append_left _ hx)) (fun x hx => hs x (List.mem_append_left _ hx)),
      trodAll_stays hl (by simpa using hr.2) h2 (fun x hx => hsame x (List.mem_append_right _ hx)) (fun x hx => hs x (List.mem_append_right _ hx)), rfl⟩
end

/-- Nothing that was there has changed; there may be new blocks. -/
def Ext (w w' : World) : Prop := Below w.heap.size w w'
theorem Ext.refl (w : World) : Ext w w := Below.refl _ _
theorem Ext.below {w w' : World} (h : Ext w w') : Below w.heap.size w w' := h
theorem Ext.size {w w' : World} (h : Ext w w') : w.heap.size ≤ w'.heap.size := Below.size h
theorem Ext.trans {a b c : World} (h : Ext a b) (k : Ext b c) : Ext a c := Below.trans h (Below.mono k (Below.size h))
theorem Ext.alloc {a b : World} (h : Ext a b) (o : Obj) : Ext a (b.alloc o) := Below.alloc h (Below.size h) o
theorem Ext.drew {a b : World} (h : Ext a b) : Ext a b.drew := ⟨h.os, h.tape, h.output, h.size, h.block⟩
theorem Ext.drewN {a b : World} (h : Ext a b) (n : Nat) : Ext a (b.drewN n) := ⟨h.os, h.tape, h.output, h.size, h.block⟩
theorem Ext.setCell {a b : World} (h : Ext a b) {p : Addr} (hp : a.heap.size ≤ p.block) (u : Value) : Ext a (b.setCell p u) := Below.setCell h hp u
theorem Ext.cell {w w' : World} (h : Ext w w') (b o : Nat) (hb : b < w.heap.size) : w'.cell? ⟨b, o, none⟩ = w.cell? ⟨b, o, none⟩ := Below.cell (p := ⟨b, o, none⟩) h hb
theorem Ext.frozen {w w' : World} (h : Ext w w') (b o : Nat) (hb : b < w.heap.size) : w'.frozen? ⟨b, o, none⟩ = w.frozen? ⟨b, o, none⟩ := Below.frozen (p := ⟨b, o, none⟩) h hb
theorem Ext.trans' {a b c : World} (k : Ext b c) (h : Ext a b) : Ext a c := h.trans k
theorem Ext.setCell' {a b : World} {p : Addr} (hp : a.heap.size ≤ p.block) (h : Ext a b) (u : Value) : Ext a (b.setCell p u) := h.setCell hp u
theorem keepS {Q : Prop} {w w' : World} (h : Ext w w') (hq : Ext w w' → Q) : Q ∧ Ext w w' := ⟨hq h, h⟩
theorem Ext.cells {w w' : World} (h : Ext w w') : (∀ b o, b < w.heap.size → w'.cell? ⟨b, o, none⟩ = w.cell? ⟨b, o, none⟩) ∧ (∀ b o, b < w.heap.size → w'.frozen? ⟨b, o, none⟩ = w.frozen? ⟨b, o, none⟩) :=
  ⟨h.cell, h.frozen⟩

theorem ret_int {k : IntKind} {a b : Int} (h : a = b) : Ending.returned (.int k a) = .returned (.int k b) := by rw [h]
theorem ret_bool {a b : Bool} (h : a = b) : Ending.returned (.bool a) = .returned (.bool b) := by rw [h]
theorem ret_val {a b : Value} (h : a = b) : Ending.returned a = .returned b := by rw [h]

/-- A quiet call behind draws. -/
theorem quiet_more {P : Program} {f : FuncId} {args : Array Value} {w : World} {a n : Nat} {v : Value} (h : Calls P f args (w.drewN (a + n)) fun e w' => e = .returned v ∧ w' = w.drewN (a + n)) :
    Calls P f args (w.drewN (a + n)) fun e w'' => e = .returned v ∧ ∃ m, w'' = w.drewN (a + m) :=
  h.mono fun _ _ ⟨he, hm⟩ => ⟨he, n, hm⟩

theorem i64_wf {n : Int} (h : (Lit.int .i64 n).wf = true) : -9223372036854775808 ≤ n ∧ n ≤ 9223372036854775807 := by
  simp only [Lit.wf, Bool.and_eq_true, decide_eq_true_eq] at h
  exact h
theorem i64_hi {n : Int} (h : (Lit.int .i64 n).wf = true) : n ≤ 9223372036854775807 := (i64_wf h).2
theorem i64_lo {n : Int} (h : (Lit.int .i64 n).wf = true) : -9223372036854775808 ≤ n := (i64_wf h).1

/-- What a law's walk must show. -/
def LawWalk (k : FuncId) (f : Func) : Prop :=
  ∀ (H : Type) (enc : TypeId × Value → H) (W : World) (base : Nat) (args : Array Value) (ds : List (DataW H)) (p : List MemPlace),
    (∀ (j : Nat) t v, f.params[j]? = some t → args[j]? = some v → Value.okWide Tryd.prog W .any base t v) →
    DataW.TrodAll enc Tryd.prog W 0 (fun _ => true) true f.params.toList args.toList ds p →
    Calls Tryd.prog k args W fun e W' => e = .returned (.bool true) ∧ Below W.heap.size W W'

set_option maxRecDepth 100000 in
theorem lifted_of {k : FuncId} {f : Func} {s : ChangeSpec} {conds : List PathCond} (os : Os) (started : os.Started) (H : Type) (enc : TypeId × Value → H)
    (noInit : Tryd.checked.prog.inits.idxOf? k = none) (hfn : Tryd.checked.prog.funcs[k]? = some f)
    (witness : ∃ (w : World) (tape : Tape) (i : Input), w.os = os ∧ (w.forCall tape i).Shaped Tryd.checked.prog ∧ i.vars = [] ∧ Input.okWide Tryd.checked.prog (w.forCall tape i) .any w.heap.size k i ∧
      s.pre6 enc Tryd.checked.prog f conds false (w.forCall tape i).memory i.args ∧ ({} : Assume).holds Tryd.checked.prog (lone (Frame.enter Tryd.checked.prog k i.args .normal) [] (w.forCall tape i)))
    (hres : f.resultTypes = #[4]) (hvars : s.vars = []) (hread : (f.params.toList.all fun t => Tryd.prog.readableRec t && decide (t < Tryd.prog.types.size)) = true)
    (hspec : ∀ ds : List (DataW H), ds.length = f.params.size → s.fn H ds = { results := [.lit (.bool true)], args := ds })
    (walk : LawWalk k f) :
    ReturnsInHanded {} Tryd.checked os k .any (s.pre6 enc Tryd.prog f conds false) (s.post enc Tryd.prog f false true false false) := by
  refine returnsInHanded_of_change (C := Tryd.checked) own started noInit hfn witness ?_
  intro W base args ds gs before hval hW _ _
  have hW' := hW
  obtain ⟨p, q, hA, hV, rfl, hfz, hnd⟩ := hW
  rw [hvars] at hV
  obtain ⟨rfl, rfl⟩ := trodVars_none hV
  have hlen : ds.length = f.params.size := by
    have : ∀ {ts : List TypeId} {vs : List Value} {ds : List (DataW H)} {ps : List MemPlace}, DataW.TrodAll enc Tryd.prog W 0 (fun _ => true) true ts vs ds ps → ds.length = ts.length := by
      intro ts
      induction ts with
      | nil => intro vs ds ps h; obtain ⟨_, rfl, _⟩ := trodAll_nil h; rfl
      | cons t ts ih =>
        intro vs ds ps h
        obtain ⟨v, vs', d, ds', p, q, rfl, rfl, rfl, _, h2⟩ := trodAll_cons h
        simp [ih h2]
    simpa using this hA
  have hs := hspec ds hlen
  refine (walk H enc W base args ds p hval hA).mono fun e W' ⟨he, hg⟩ => ?_
  subst he
  have hlt : ∀ x ∈ p, x.block < W.heap.size := fun x hx => hW'.lt x (by simpa using hx)
  refine ⟨_, rfl, post_of_below (pa := p) (pv := []) hW' ?_ ?_ ?_ (by simp) hg (ok_one hres rfl (okWide_bool_mk Tryd.underlying4 _))⟩
  · intro b sp hd
    rw [List.append_nil, hs, hres]
    exact trodAll_cons_mk (shut_bool Tryd.underlying4 _) trodAll_mk0
  · intro sp hsp
    rw [List.append_nil, hs]
    exact trodAll_stays laidOut hread hA (fun x hx => hg.same (hlt x hx)) (fun x hx => hsp x (by simpa using hx))
  · intro sp _
    rw [List.append_nil, hs, hvars]
    rfl

section
variable {P : Program} {ops : Array Oper} {C : World → Prop} {Q : Act → Prop} {a : Act} {o : Oper} {rest : List Oper}
theorem bb_n (b : Bool) : ((none : Option Bool) == some b) = false := rfl
theorem bb_tt : ((some true : Option Bool) == some true) = true := rfl
theorem bb_tf : ((some true : Option Bool) == some false) = false := rfl
theorem bb_ft : ((some false : Option Bool) == some true) = false := rfl
theorem bb_ff : ((some false : Option Bool) == some false) = true := rfl
/-- An operation of the lexical walk that its guard leaves out. -/
theorem wpQuiet_skip (hw : Region.wanted o (yielded ops a.tmps) = false) (h : wpQuiet P ops C Q rest (a.put o.dst undef)) : wpQuiet P ops C Q (o :: rest) a := by
  unfold wpQuiet
  rw [if_neg (by rw [hw]; exact Bool.false_ne_true)]
  exact h
/-- An operation of the lexical walk that is carried out. -/
theorem wpQuiet_do {v : Value} (hw : Region.wanted o (yielded ops a.tmps) = true) (hv : ∀ w, C w → o.quietAt P a C w v) (h : wpQuiet P ops C Q rest (a.put o.dst v)) : wpQuiet P ops C Q (o :: rest) a := by
  unfold wpQuiet
  rw [if_pos hw]
  exact ⟨v, hv, h⟩
end
end Go.Proofs.YtaopjdeigpiejaaDoor
namespace Go.Proofs.YtaopjdeigpiejaaDoor
open Go.ChangeShapes Go.WideShapes Go.ChangeAt Go.RowKit

/-- An integer of Go's int. -/
def I64 (x : Int) : Prop := -9223372036854775808 ≤ x ∧ x ≤ 9223372036854775807

theorem len1 {α : Type} {l : List α} (h : l.length = 1) : ∃ c0, l = [c0] := by
  match l, h with
  | [c0], _ => exact ⟨c0, rfl⟩
theorem len2 {α : Type} {l : List α} (h : l.length = 2) : ∃ c0 c1, l = [c0, c1] := by
  match l, h with
  | [c0, c1], _ => exact ⟨c0, c1, rfl⟩
theorem len3 {α : Type} {l : List α} (h : l.length = 3) : ∃ c0 c1 c2, l = [c0, c1, c2] := by
  match l, h with
  | [c0, c1, c2], _ => exact ⟨c0, c1, c2, rfl⟩
theorem len4 {α : Type} {l : List α} (h : l.length = 4) : ∃ c0 c1 c2 c3, l = [c0, c1, c2, c3] := by
  match l, h with
  | [c0, c1, c2, c3], _ => exact ⟨c0, c1, c2, c3, rfl⟩
theorem len5 {α : Type} {l : List α} (h : l.length = 5) : ∃ c0 c1 c2 c3 c4, l = [c0, c1, c2, c3, c4] := by
  match l, h with
  | [c0, c1, c2, c3, c4], _ => exact ⟨c0, c1, c2, c3, c4, rfl⟩
theorem len6 {α : Type} {l : List α} (h : l.length = 6) : ∃ c0 c1 c2 c3 c4 c5, l = [c0, c1, c2, c3, c4, c5] := by
  match l, h with
  | [c0, c1, c2, c3, c4, c5], _ => exact ⟨c0, c1, c2, c3, c4, c5, rfl⟩
theorem len7 {α : Type} {l : List α} (h : l.length = 7) : ∃ c0 c1 c2 c3 c4 c5 c6, l = [c0, c1, c2, c3, c4, c5, c6] := by
  match l, h with
  | [c0, c1, c2, c3, c4, c5, c6], _ => exact ⟨c0, c1, c2, c3, c4, c5, c6, rfl⟩

section
variable {H : Type} {enc : TypeId × Value → H} {P : Program} {w : World} {base : Nat} {spare : Nat → Bool} {held : Bool}

/-- A struct argument: its cells in a row, and each field's own reading. -/
theorem open_struct {r : Reach} {b0 : Nat} {t : TypeId} {fs : Array Field} {v : Value} {d : DataW H} {p : List MemPlace} (hs : P.underlying t = some (.struct fs))
    (hv : Value.okWide P w r b0 t v) (h : DataW.Trod enc P w base spare held t v d p) :
    ∃ (cs : List Value) (n : Nat), v = .agg cs.toArray ∧ cs.length = P.cellsOf t ∧
      ∀ (j : Nat) (f : Field), fs[j]? = some f → ∃ y, DataW.trod enc P w base spare held n f.type ((cs.drop f.offset).take (P.cellsOf f.type)) = some y := by
  obtain ⟨cs, rfl, hsz⟩ := okWide_struct hs hv
  obtain ⟨l⟩ := cs
  obtain ⟨fuel, hf⟩ := h
  obtain ⟨xs, n, _, hx, _, hlen, hg⟩ := DataW.trod_struct hs hf
  refine ⟨l, n, rfl, by simpa using hsz, fun j f hj => ?_⟩
  have hjl : j < fs.size := (Array.getElem?_eq_some_iff.1 hj).1
  have := hg j f hj
  rw [List.getElem?_eq_getElem (by omega)] at this
  exact ⟨_, by simpa [Value.cells] using this⟩

/-- The same inside another value: a struct among cells. -/
theorem inner_struct {t : TypeId} {fs : Array Field} {fuel : Nat} {cs : List Value} {x : DataW H × List MemPlace} (hs : P.underlying t = some (.struct fs)) (h : DataW.trod enc P w base spare held fuel t cs = some x) :
    ∃ n : Nat, cs.length = P.cellsOf t ∧
      ∀ (j : Nat) (f : Field), fs[j]? = some f → ∃ y, DataW.trod enc P w base spare held n f.type ((cs.drop f.offset).take (P.cellsOf f.type)) = some y := by
  obtain ⟨xs, n, _, hx, hl, hlen, hg⟩ := DataW.trod_struct hs h
  refine ⟨n, hl, fun j f hj => ?_⟩
  have hjl : j < fs.size := (Array.getElem?_eq_some_iff.1 hj).1
  have := hg j f hj
  rw [List.getElem?_eq_getElem (by omega)] at this
  exact ⟨_, this⟩

theorem inner_int {t : TypeId} {fuel : Nat} {cs : List Value} {x : DataW H × List MemPlace} (ht : P.underlying t = some (.int .i64)) (h : DataW.trod enc P w base spare held fuel t cs = some x) :
    ∃ a : Int, cs = [.int .i64 a] ∧ -9223372036854775808 ≤ a ∧ a ≤ 9223372036854775807 := by
  obtain ⟨n, h1, _, h2⟩ := DataW.trod_int ht h
  exact ⟨n, h1, i64_lo h2, i64_hi h2⟩

theorem outer_int {r : Reach} {b0 : Nat} {t : TypeId} {v : Value} {d : DataW H} {p : List MemPlace} (ht : P.underlying t = some (.int .i64))
    (hv : Value.okWide P w r b0 t v) (h : DataW.Trod enc P w base spare held t v d p) :
    ∃ a : Int, v = .int .i64 a ∧ -9223372036854775808 ≤ a ∧ a ≤ 9223372036854775807 := by
  obtain ⟨a, h1, _, _, h2⟩ := open_int ht hv h
  exact ⟨a, h1, i64_lo h2, i64_hi h2⟩
end
end Go.Proofs.YtaopjdeigpiejaaDoor
namespace Go.Proofs.YtaopjdeigpiejaaDoor
open Go.ChangeShapes Go.WideShapes Go.ChangeAt Go.RowKit
set_option linter.unusedVariables false

/-- The slice at A of n elements (each of 'size' cells) holds the cells cs. -/
def Rd (w : World) (size : Nat) (A : Option Addr) (n : Nat) (cs : List Value) : Prop :=
  cs.length = n * size ∧ (0 < n → ∃ b o, A = some ⟨b, o, none⟩ ∧ b < w.heap.size ∧ ∀ j u, cs[j]? = some u → w.cell? ⟨b, o + j, none⟩ = some u)

theorem addr_add (b o j : Nat) : (⟨b, o, none⟩ : Addr).add j = ⟨b, o + j, none⟩ := by
  unfold Addr.add
  split
  · next h => subst h; rfl
  · rfl

section
variable {w w' : World} {size n : Nat} {A : Option Addr} {cs : List Value}
theorem Rd.nil : Rd w size A 0 [] := ⟨by simp, fun h => absurd h (by omega)⟩
theorem Rd.nil' (h : Rd w size A 0 cs) : cs = [] := List.eq_nil_of_length_eq_zero (by simpa using h.1)
theorem Rd.ext (h : Rd w size A n cs) (he : Ext w w') : Rd w' size A n cs :=
  ⟨h.1, fun hn => by
    obtain ⟨b, o, e, hb, hc⟩ := h.2 hn
    exact ⟨b, o, e, Nat.lt_of_lt_of_le hb he.size, fun j u hu => (he.cell b _ hb).trans (hc j u hu)⟩⟩
theorem Rd.alloc (h : Rd w size A n cs) (o : Obj) : Rd (w.alloc o) size A n cs := h.ext ((Ext.refl w).alloc o)
theorem Rd.drew (h : Rd w size A n cs) : Rd w.drew size A n cs := h
theorem Rd.drewN (h : Rd w size A n cs) (k : Nat) : Rd (w.drewN k) size A n cs := h
/-- An element of one cell. -/
theorem Rd.at1 {k : Nat} (h : Rd w 1 A n cs) (hk : k < n) : ∃ b o u, A = some ⟨b, o, none⟩ ∧ b < w.heap.size ∧ cs[k]? = some u ∧ w.cell? ⟨b, o + k, none⟩ = some u := by
  obtain ⟨b, o, e, hb, hc⟩ := h.2 (by omega)
  have hl : k < cs.length := by have := h.1; omega
  exact ⟨b, o, cs[k], e, hb, List.getElem?_eq_getElem hl, hc k _ (List.getElem?_eq_getElem hl)⟩
/-- All cells of a slice, its address laid open. -/
theorem Rd.open_ (h : Rd w size A n cs) (hn : 0 < n) : ∃ b o, A = some ⟨b, o, none⟩ ∧ b < w.heap.size ∧ ∀ j u, cs[j]? = some u → w.cell? ⟨b, o + j, none⟩ = some u := h.2 hn
theorem Rd.of_own {base : Nat} {e : TypeId} {c : Nat} (h : w.ownsRow base e size (.slice A n c) n cs) : Rd w size A n cs := by
  refine ⟨h.1, fun hn => ?_⟩
  obtain ⟨g, cap, hv, _, hlt⟩ := h.form hn
  have hA : A = some ⟨g, 0, none⟩ := by injection hv
  subst hA
  refine ⟨g, 0, rfl, hlt, fun j u hu => ?_⟩
  have := h.cells (g := g) rfl j u hu
  rwa [addr_add] at this
/-- A row that was just laid. -/
theorem Rd.new (w : World) (t : TypeId) (l : List Value) (n size : Nat) (h : l.length = n * size) : Rd (w.alloc (.cells l.toArray t)) size (some ⟨w.heap.size, 0, none⟩) n l := by
  refine ⟨h, fun _ => ⟨w.heap.size, 0, rfl, by simp, fun j u hu => ?_⟩⟩
  have h1 : (w.alloc (.cells l.toArray t)).heap[w.heap.size]? = some (.cells l.toArray t (0, 0)) := heap_alloc_new w _
  rw [Nat.zero_add, cell_of_row _ _ _ _ _ _ h1]
  simpa using hu
theorem Rd.cut {k cap : Nat} (h : Rd w size A n cs) (hk : k ≤ n) (hc : n ≤ cap) :
    Rd w size (if cap = k then A else A.map (·.add (k * size))) (n - k) (cs.drop (k * size)) := by
  refine ⟨by rw [List.length_drop, h.1, Nat.sub_mul], fun hn => ?_⟩
  obtain ⟨b, o, rfl, hb, hcell⟩ := h.2 (by omega)
  rw [if_neg (by omega)]
  refine ⟨b, o + k * size, by simp [addr_add], hb, fun j u hu => ?_⟩
  have := hcell (k * size + j) u (by rw [← hu, List.getElem?_drop])
  rwa [← Nat.add_assoc] at this
theorem Rd.take {k : Nat} (h : Rd w size A n cs) (hk : k ≤ n) : Rd w size A k (cs.take (k * size)) := by
  refine ⟨by rw [List.length_take, h.1]; exact Nat.min_eq_left (Nat.mul_le_mul_right _ hk), fun hn => ?_⟩
  obtain ⟨b, o, e, hb, hcell⟩ := h.2 (by omega)
  exact ⟨b, o, e, hb, fun j u hu => hcell j u (by
    rw [List.getElem?_take] at hu
    split at hu
    · exact hu
    · cases hu)⟩
end

section
variable {w w' : World} {base size n : Nat} {e : TypeId} {v : Value} {cs : List Value}
theorem own_form (h : w.ownsRow base e size v n cs) : ∃ A c, v = .slice A n c ∧ n ≤ c ∧ c ≤ maxLen := by
  rcases h.2 with ⟨rfl, rfl⟩ | ⟨g, cap, cur, rfl, _, _, h1, h2, _⟩
  · exact ⟨none, 0, rfl, Nat.le_refl _, Nat.zero_le _⟩
  · exact ⟨_, cap, rfl, h1, h2⟩
theorem own_nil (w : World) (base : Nat) (e : TypeId) (size : Nat) : w.ownsRow base e size (.slice none 0 0) 0 [] := ⟨by simp, .inl ⟨rfl, rfl⟩⟩
theorem own_ge (h : w.ownsRow base e size v n cs) : ∀ k, v.ownBlock = some k → base ≤ k ∧ k < w.heap.size := h.lt
theorem own_lower {base' : Nat} (h : w.ownsRow base e size v n cs) (hb : base' ≤ base) : w.ownsRow base' e size v n cs := by
  rcases h with ⟨h1, h2 | ⟨g, cap, cur, rfl, hg, h3⟩⟩
  · exact ⟨h1, .inl h2⟩
  · exact ⟨h1, .inr ⟨g, cap, cur, rfl, by omega, h3⟩⟩
theorem own_ext (h : w.ownsRow base e size v n cs) (he : Ext w w') : w'.ownsRow base e size v n cs := by
  rcases h with ⟨h1, h2 | ⟨g, cap, cur, rfl, hg, hh, h3⟩⟩
  · exact ⟨h1, .inl h2⟩
  · exact ⟨h1, .inr ⟨g, cap, cur, rfl, hg, (he.block g (by
      rcases Nat.lt_or_ge g w.heap.size with hlt | hge
      · exact hlt
      · rw [Array.getElem?_eq_none hge] at hh; cases hh)).trans hh, h3⟩⟩
theorem own_set (h : w.ownsRow base e size v n cs) {p : Addr} (hp : v.ownBlock ≠ some p.block) (u : Value) : (w.setCell p u).ownsRow base e size v n cs := by
  rcases h with ⟨h1, h2 | ⟨g, cap, cur, rfl, hg, hh, h3⟩⟩
  · exact ⟨h1, .inl h2⟩
  · exact ⟨h1, .inr ⟨g, cap, cur, rfl, hg, (Below.heap_setCell w p u g (fun e => hp (by rw [← e]; rfl))).trans hh, h3⟩⟩
theorem only_alloc (w : World) (o : Obj) (row : Option Nat) : w.grownBy (w.alloc o) row := ⟨rfl, rfl, rfl, by simp, fun k hk _ => Below.heap_alloc w o k hk⟩
/-- A row is kept where another row, on the other side of block B, is written. -/
theorem own_apart {u : Value} {B nu su bu : Nat} {eu : TypeId} {cu : List Value} {row : Option Nat} (hu : w.ownsRow bu eu su u nu cu) (hg : w.grownBy w' row) (h1 : ∀ k, u.ownBlock = some k → k < B) (h2 : ∀ k, row = some k → B ≤ k) : w'.ownsRow bu eu su u nu cu := by
  refine hu.kept hg ?_
  cases hb : u.ownBlock with
  | none => exact .inl rfl
  | some k => exact .inr (fun e => by have := h1 k hb; have := h2 k e.symm; omega)
theorem own_apart' {u : Value} {B nu su bu : Nat} {eu : TypeId} {cu : List Value} {row : Option Nat} (hu : w.ownsRow bu eu su u nu cu) (hg : w.grownBy w' row) (h1 : ∀ k, u.ownBlock = some k → B ≤ k) (h2 : ∀ k, row = some k → k < B) : w'.ownsRow bu eu su u nu cu := by
  refine hu.kept hg ?_
  cases hb : u.ownBlock with
  | none => exact .inl rfl
  | some k => exact .inr (fun e => by have := h1 k hb; have := h2 k e.symm; omega)
/-- A row that a literal or a make has just laid is owned. -/
theorem own_new (w : World) (e : TypeId) (l : List Value) (n size cap base : Nat) (hb : base ≤ w.heap.size) (h : l.length = cap * size) (hn : n ≤ cap) (hm : cap ≤ maxLen) :
    (w.alloc (.cells l.toArray e)).ownsRow base e size (.slice (some ⟨w.heap.size, 0, none⟩) n cap) n (l.take (n * size)) :=
  ⟨by rw [List.length_take, h]; exact Nat.min_eq_left (Nat.mul_le_mul_right _ hn), .inr ⟨w.heap.size, cap, l.toArray, rfl, hb, heap_alloc_new w _, hn, hm, by simpa using h, by simp⟩⟩
theorem ext_grown {w0 : World} {row : Option Nat} (h : Ext w0 w) (hg : w.grownBy w' row) (hr : ∀ k, row = some k → w0.heap.size ≤ k) : Ext w0 w' := Below.grown h hg h.size hr
theorem ext_grown_own {w0 : World} (h : Ext w0 w) (ho : w.ownsRow base e size v n cs) (hg : w.grownBy w' v.ownBlock) (hb : w0.heap.size ≤ base) : Ext w0 w' :=
  ext_grown h hg fun k hk => Nat.le_trans hb (ho.lt k hk).1
end

section
variable {P : Program} (w : World)
theorem run_append_nil (base : Nat) (t ty e : TypeId) (i : TypeInfo) (size : Nat) (ht : P.underlying t = some (.slice e)) (hi : P.info? e = some i)
    (v : Value) (n : Nat) (xs : List Value) (hown : w.ownsRow base e size v n xs) (c : Nat) : (Builtin.append_ #[t, t] ty #[v, .slice none 0 c]).run P w = .ok v w := by
  rcases hown.2 with ⟨rfl, rfl⟩ | ⟨g, cap, cur, rfl, _, _, hnc, _⟩
  · simp [Builtin.append_, run_underlying ht, sizeOf, typeInfo, hi, Builtin.lenOf, Builtin.firstCells]
  · simp [Builtin.append_, run_underlying ht, sizeOf, typeInfo, hi, Builtin.lenOf, Builtin.firstCells, hnc, storeCells]

theorem run_append_rd (base : Nat) (t ty e : TypeId) (i : TypeInfo) (z : Value) (size bytes : Nat) (ht : P.underlying t = some (.slice e)) (hi : P.info? e = some i) (hz : i.zero = some z)
    (hsize : i.size = size) (hby : i.bytes = bytes) (hzs : z.cells.size = size) (hsz : 0 < size)
    (v : Value) (n : Nat) (xs : List Value) (hown : w.ownsRow base e size v n xs)
    (A : Option Addr) (m c : Nat) (news : List Value) (hr : Rd w size A m news) (h1 : ∀ u ∈ news, u.oneCell' = true)
    (h63 : n + m ≤ maxLen) (hbytes : (n + m) * bytes ≤ 140737488355328) (hbase : base ≤ w.heap.size) :
    ∃ v' w', (Builtin.append_ #[t, t] ty #[v, .slice A m c]).run P w = .ok v' w' ∧ w'.ownsRow base e size v' (n + m) (xs ++ news) ∧ w.grownBy w' v.ownBlock ∧
      (v'.ownBlock = v.ownBlock ∨ v'.ownBlock = some w.heap.size) := by
  rcases A with _ | ad
  · have hm : m = 0 := by
      rcases Nat.eq_zero_or_pos m with h0 | h0
      · exact h0
      · obtain ⟨b, o, h, _⟩ := hr.2 h0
        cases h
    subst hm
    obtain rfl := hr.nil'
    exact ⟨v, w, run_append_nil w base t ty e i size ht hi v n xs hown c, by simpa using hown, World.grownBy.refl w _, .inl rfl⟩
  · have hcells : ∀ j u, news[j]? = some u → w.cell? (ad.add j) = some u := by
      intro j u hu
      rcases Nat.eq_zero_or_pos m with h0 | h0
      · subst h0
        obtain rfl := hr.nil'
        simp at hu
      · obtain ⟨b, o, h, _, hc⟩ := hr.2 h0
        injection h with h
        subst h
        rw [addr_add]
        exact hc j u hu
    obtain ⟨v', w', hrun, h2, h3, _, h5⟩ := run_append_own_at (P := P) w base t ty e i z size bytes ht hi hz hsize hby hzs hsz v n xs hown ad m c news hr.1 hcells h1 h63 hbytes hbase
    exact ⟨v', w', hrun, h2, h3, h5⟩

/-- append(s, x...) at an operation of a plain region: s is a row of the call's own, x whatever slice. -/
theorem wpList_append_rd {ops : Array Oper} {rest : List Oper} {o : Oper} {a : Act} {Q : Exit → Act → World → Prop} (hgd : o.guard = none) (s x : Operand) (t : TypeId)
    (ho : o.op = .call { callee := .builtin .append, args := #[s, x], argTypes := #[t, t] })
    (base : Nat) (e : TypeId) (i : TypeInfo) (z : Value) (size bytes : Nat) (ht : P.underlying t = some (.slice e)) (hi : P.info? e = some i) (hz : i.zero = some z)
    (hsize : i.size = size) (hby : i.bytes = bytes) (hzs : z.cells.size = size) (hsz : 0 < size)
    (v : Value) (n : Nat) (xs : List Value) (hs : a.eval s = v) (hown : w.ownsRow base e size v n xs)
    (A : Option Addr) (m c : Nat) (news : List Value) (hx : a.eval x = .slice A m c) (hr : Rd w size A m news) (h1 : ∀ u ∈ news, u.oneCell' = true)
    (h63 : n + m ≤ maxLen) (hbytes : (n + m) * bytes ≤ 140737488355328) (hbase : base ≤ w.heap.size)
    (h : ∀ v' w', w'.ownsRow base e size v' (n + m) (xs ++ news) → w.grownBy w' v.ownBlock → (v'.ownBlock = v.ownBlock ∨ v'.ownBlock = some w.heap.size) → wpList P ops Q rest (a.put o.dst v') w') : wpList P ops Q (o :: rest) a w := by
  refine wpList_plain hgd fun K hK => ?_
  obtain ⟨v', w', hrun, h2, h3, h4⟩ := run_append_rd (P := P) w base t o.type e i z size bytes ht hi hz hsize hby hzs hsz v n xs hown A m c news hr h1 h63 hbytes hbase
  unfold Oper.wp execOp
  simp only [ho, resolve, invoke, builtin, Sem.run_bind, Sem.run_pure, Result.andThen_ok, List.map_toArray, List.map_cons, List.map_nil, hs, hx, hrun]
  exact hK _ _ (h v' w' h2 h3 h4)
end

/-- A new row is handed back; nothing that was there has changed. -/
def OwnPost (w : World) (e : TypeId) (size n : Nat) (cs : List Value) (en : Ending) (w' : World) : Prop :=
  ∃ v, en = .returned v ∧ w'.ownsRow w.heap.size e size v n cs ∧ Ext w w'

/-! ### integers -/
abbrev ints (xs : List Int) : List Value := xs.map (Value.int .i64)
theorem ints_one (xs : List Int) : ∀ u ∈ ints xs, u.oneCell' = true := by
  intro u hu
  obtain ⟨x, _, rfl⟩ := List.mem_map.1 hu
  rfl
theorem ints_get {xs : List Int} {k : Nat} {u : Value} (h : (ints xs)[k]? = some u) : ∃ x, xs[k]? = some x ∧ u = .int .i64 x := by
  rw [List.getElem?_map] at h
  cases hx : xs[k]? with
  | none => rw [hx] at h; cases h
  | some x => rw [hx] at h; exact ⟨x, rfl, by simpa using h.symm⟩
/-- An integer of a slice. -/
theorem Rd.int {w : World} {A : Option Addr} {n k : Nat} {xs : List Int} (h : Rd w 1 A n (ints xs)) (hk : k < n) : ∃ b o x, A = some ⟨b, o, none⟩ ∧ b < w.heap.size ∧ xs[k]? = some x ∧ w.cell? ⟨b, o + k, none⟩ = some (.int .i64 x) := by
  obtain ⟨b, o, u, rfl, hb, hu, hc⟩ := h.at1 hk
  obtain ⟨x, hx, rfl⟩ := ints_get hu
  exact ⟨b, o, x, rfl, hb, hx, hc⟩
theorem Rd.len {w : World} {A : Option Addr} {n : Nat} {xs : List Int} (h : Rd w 1 A n (ints xs)) : xs.length = n := by simpa using h.1

theorem info_int : ∃ i : TypeInfo, Tryd.prog.info? 3 = some i ∧ i.zero = some (.int .i64 0) ∧ i.size = 1 ∧ i.bytes = 8 :=
  info_parts (show (Tryd.prog.info? 3).map (fun i => (i.zero, i.size, i.bytes)) = some (some (.int .i64 0), 1, 8) by kernel_rfl)
/-- append at []int: the row is the call's own. -/
theorem wpList_append_int (w : World) {ops : Array Oper} {rest : List Oper} {o : Oper} {a : Act} {Q : Exit → Act → World → Prop} (hgd : o.guard = none) (s x : Operand)
    (ho : o.op = .call { callee := .builtin .append, args := #[s, x], argTypes := #[22, 22] })
    (base : Nat) (v : Value) (n : Nat) (xs : List Int) (hs : a.eval s = v) (hown : w.ownsRow base 3 1 v n (ints xs))
    (A : Option Addr) (m c : Nat) (news : List Int) (hx : a.eval x = .slice A m c) (hr : Rd w 1 A m (ints news))
    (h63 : n + m ≤ 17592186044416) (hbase : base ≤ w.heap.size)
    (h : ∀ v' w', w'.ownsRow base 3 1 v' (n + m) (ints (xs ++ news)) → w.grownBy w' v.ownBlock → (v'.ownBlock = v.ownBlock ∨ v'.ownBlock = some w.heap.size) → wpList Tryd.prog ops Q rest (a.put o.dst v') w') : wpList Tryd.prog ops Q (o :: rest) a w := by
  obtain ⟨i0, hi, hz0, hz1, hz2⟩ := info_int
  refine wpList_append_rd w hgd s x _ ho base _ i0 (.int .i64 0) 1 8 Tryd.underlying22 hi hz0 hz1 hz2 rfl (by omega) v n _ hs hown A m c _ hx hr (ints_one _) (by unfold maxLen; omega) (by omega) hbase ?_
  intro v' w' h1 h2 h3
  refine h v' w' ?_ h2 h3
  rw [ints, List.map_append]
  exact h1
end Go.Proofs.YtaopjdeigpiejaaDoor
namespace Go.Proofs.YtaopjdeigpiejaaDoor
open Go.ChangeShapes Go.WideShapes Go.ChangeAt Go.RowKit Go.Deep
set_option linter.unusedVariables false

theorem flatten_get {size : Nat} : ∀ (els : List (List Value)), (∀ el ∈ els, el.length = size) → ∀ (j : Nat) (u : Value), els.flatten[j]? = some u →
    ∃ i r el, r < size ∧ j = i * size + r ∧ els[i]? = some el ∧ el[r]? = some u
  | [], _, j, u, h => by simp at h
  | el :: els, hl, j, u, h => by
    rw [List.flatten_cons] at h
    have h0 := hl el (by simp)
    rcases Nat.lt_or_ge j el.length with hj | hj
    · rw [List.getElem?_append_left hj] at h
      exact ⟨0, j, el, by omega, by omega, rfl, h⟩
    · rw [List.getElem?_append_right hj] at h
      obtain ⟨i, r, el', h1, h2, h3, h4⟩ := flatten_get els (fun e he => hl e (by simp [he])) _ u h
      refine ⟨i + 1, r, el', h1, ?_, by simpa using h3, h4⟩
      rw [Nat.add_mul]
      omega
theorem flatten_length {size : Nat} : ∀ (els : List (List Value)), (∀ el ∈ els, el.length = size) → els.flatten.length = els.length * size
  | [], _ => by simp
  | el :: els, hl => by
    rw [List.flatten_cons, List.length_append, flatten_length els (fun e he => hl e (by simp [he])), hl el (by simp), List.length_cons, Nat.add_mul]
    omega

section
variable {H : Type} {enc : TypeId × Value → H} {P : Program} {w : World} {base : Nat} {spare : Nat → Bool} {held : Bool}
theorem inner_slice {t e : TypeId} {size fuel : Nat} {cs : List Value} {x : DataW H × List MemPlace} (ht : P.underlying t = some (.slice e)) (hsz : P.cellsOf e = size) (hs0 : 0 < size)
    (h : DataW.trod enc P w base spare held fuel t cs = some x) :
    ∃ (A : Option Addr) (n c : Nat) (els : List (List Value)), cs = [.slice A n c] ∧ n ≤ c ∧ c ≤ maxLen ∧ els.length = n ∧ Rd w size A n els.flatten ∧
      ∀ el ∈ els, el.length = size ∧ ∃ k y, DataW.trod enc P w base spare held k e el = some y := by
  rcases open_slice ht h with ⟨rfl, _⟩ | ⟨a, len, cap, m, n, D, Pl, rfl, hb, hl, hm, hmm, hx, hi⟩
  · exact ⟨none, 0, 0, [], rfl, Nat.le_refl _, Nat.zero_le _, rfl, Rd.nil, fun el hel => by simp at hel⟩
  · have hlm : len ≤ m := by rw [hmm]; split <;> omega
    rw [hsz] at hi
    let f : Nat → List Value := fun i => if hi' : i < m then Classical.choose (hi i hi') else []
    have hf : ∀ i, i < m → w.cells? base (a.add (i * size)) size = some (f i) ∧ DataW.trod enc P w base spare held n e (f i) = some (D i, Pl i) := by
      intro i him
      have := Classical.choose_spec (hi i him)
      simpa [f, him] using this
    have hlen : ∀ el ∈ (List.range len).map f, el.length = size := by
      intro el hel
      obtain ⟨i, hi1, rfl⟩ := List.mem_map.1 hel
      exact (World.cells?_some (hf i (by have := List.mem_range.1 hi1; omega)).1).2.1
    refine ⟨some a, len, cap, (List.range len).map f, rfl, hl, hm, by simp, ⟨by rw [flatten_length _ hlen]; simp, fun hpos => ?_⟩, ?_⟩
    · have h00 := (World.cells?_some (hf 0 (by omega)).1).2.2 0 hs0
      have hl0 : (f 0).length = size := hlen _ (List.mem_map.2 ⟨0, by simpa using hpos, rfl⟩)
      rw [List.getElem?_eq_getElem (by omega)] at h00
      have hspot : a.spot = none ∧ a.block < w.heap.size := by
        have e0 : ((a.add (0 * size)).add 0) = a := by simp [Addr.add]
        rw [e0] at h00
        unfold World.cell? at h00
        cases hh : w.heap[a.block]? with
        | none => rw [hh] at h00; cases h00
        | some ob =>
          rw [hh] at h00
          refine ⟨?_, (Array.getElem?_eq_some_iff.1 hh).1⟩
          cases ob with
          | cells c tt fr =>
            cases hs : a.spot with
            | none => rfl
            | some _ => simp [hs] at h00
          | _ => cases h00
      refine ⟨a.block, a.off, ?_, hspot.2, fun j u hu => ?_⟩
      · obtain ⟨b, o, s⟩ := a
        simp only at hspot
        rw [hspot.1]
      · obtain ⟨i, r, el, hr, hj, hel, hu'⟩ := flatten_get _ hlen j u hu
        have hil : i < len := by
          have := (List.getElem?_eq_some_iff.1 hel).1
          simpa using this
        have hel' : el = f i := by
          rw [List.getElem?_map, List.getElem?_range hil] at hel
          simpa using hel.symm
        have := (World.cells?_some (hf i (by omega)).1).2.2 r hr
        rw [← hel', hu'] at this
        obtain ⟨b, o, s⟩ := a
        obtain ⟨rfl, _⟩ : s = none ∧ True := ⟨hspot.1, trivial⟩
        rw [addr_add, addr_add] at this
        rw [hj, ← Nat.add_assoc]
        exact this
    · intro el hel
      refine ⟨hlen el hel, ?_⟩
      obtain ⟨i, hi1, rfl⟩ := List.mem_map.1 hel
      exact ⟨n, _, (hf i (by have := List.mem_range.1 hi1; omega)).2⟩

theorem ones_of (els : List (List Value)) (h : ∀ el ∈ els, ∃ a : Int, el = [.int .i64 a] ∧ -9223372036854775808 ≤ a ∧ a ≤ 9223372036854775807) : ∃ xs : List Int, els.flatten = ints xs ∧ xs.length = els.length ∧ ∀ x ∈ xs, -9223372036854775808 ≤ x ∧ x ≤ 9223372036854775807 := by
  induction els with
  | nil => exact ⟨[], rfl, rfl, by simp⟩
  | cons el els ih =>
    obtain ⟨a, rfl, h1⟩ := h el (by simp)
    obtain ⟨xs, e1, e2, e3⟩ := ih (fun e he => h e (by simp [he]))
    refine ⟨a :: xs, by rw [List.flatten_cons, e1]; rfl, by simp [e2], fun x hx => ?_⟩
    rcases List.mem_cons.1 hx with rfl | hx
    · exact h1
    · exact e3 x hx

theorem inner_ints {t e : TypeId} {fuel : Nat} {cs : List Value} {x : DataW H × List MemPlace} (ht : P.underlying t = some (.slice e)) (he : P.underlying e = some (.int .i64)) (hsz : P.cellsOf e = 1)
    (h : DataW.trod enc P w base spare held fuel t cs = some x) :
    ∃ (A : Option Addr) (n c : Nat) (xs : List Int), cs = [.slice A n c] ∧ n ≤ c ∧ c ≤ maxLen ∧ Rd w 1 A n (ints xs) ∧ ∀ x ∈ xs, -9223372036854775808 ≤ x ∧ x ≤ 9223372036854775807 := by
  obtain ⟨A, n, c, els, h1, h2, h3, h4, h5, h6⟩ := inner_slice ht hsz (by omega) h
  obtain ⟨xs, e1, e2, e3⟩ := ones_of els (fun el hel => by obtain ⟨_, k, y, hy⟩ := h6 el hel; exact inner_int he hy)
  rw [e1] at h5
  exact ⟨A, n, c, xs, h1, h2, h3, h5, e3⟩

theorem outer_ints {r : Reach} {b0 : Nat} {t e : TypeId} {v : Value} {d : DataW H} {p : List MemPlace} (ht : P.underlying t = some (.slice e)) (he : P.underlying e = some (.int .i64)) (hsz : P.cellsOf e = 1)
    (hv : Value.okWide P w r b0 t v) (h : DataW.Trod enc P w base spare held t v d p) :
    ∃ (A : Option Addr) (n c : Nat) (xs : List Int), v = .slice A n c ∧ n ≤ c ∧ c ≤ maxLen ∧ Rd w 1 A n (ints xs) ∧ ∀ x ∈ xs, -9223372036854775808 ≤ x ∧ x ≤ 9223372036854775807 := by
  obtain ⟨fuel, hf⟩ := h
  obtain ⟨A, n, c, xs, h1, h2⟩ := inner_ints ht he hsz hf
  obtain ⟨A', n', c', rfl⟩ := okWide_slice ht hv
  simp [Value.cells] at h1
  obtain ⟨rfl, rfl, rfl⟩ := h1
  exact ⟨A', n', c', xs, rfl, h2⟩
end
end Go.Proofs.YtaopjdeigpiejaaDoor
namespace Go.Proofs.YtaopjdeigpiejaaDoor
open Go.ChangeShapes Go.WideShapes Go.ChangeAt Go.RowKit Go.Deep
set_option linter.unusedVariables false

/-- The cells of a value of type t: they say A x, for some x. -/
def Opn (P : Program) (t n : Nat) {X : Type} (ok : X → Prop) (A : X → AV) : Prop :=
  ∀ (H : Type) (enc : TypeId × Value → H) (w : World) (base : Nat) (spare : Nat → Bool) (held : Bool) (fuel : Nat) (cs : List Value) (y : DataW H × List MemPlace), DataW.trod enc P w base spare held fuel t cs = some y →
    ∃ x : X, ok x ∧ cs.length = n ∧ (∀ u ∈ cs, u.oneCell' = true) ∧ ∀ (own : Bool → Nat → Prop) (γ : Nm → Value) (m : Md), (∀ b, ¬ own false b) → m.fr false = false → Reps w own γ (A x) m cs
/-- The fields from a cell on. -/
def OpnF (P : Program) (fs : List (Nat × Nat)) (i n : Nat) {X : Type} (ok : X → Prop) (A : X → AV) : Prop :=
  ∀ (H : Type) (enc : TypeId × Value → H) (w : World) (base : Nat) (spare : Nat → Bool) (held : Bool) (cs : List Value), (∀ f ∈ fs, ∃ fuel y, DataW.trod enc P w base spare held fuel f.2 ((cs.drop f.1).take (P.cellsOf f.2)) = some y) → cs.length = i + n →
    ∃ x : X, ok x ∧ (∀ u ∈ cs.drop i, u.oneCell' = true) ∧ ∀ (own : Bool → Nat → Prop) (γ : Nm → Value) (m : Md), (∀ b, ¬ own false b) → m.fr false = false → Reps w own γ (A x) m (cs.drop i)

section
variable {P : Program}
theorem opn_int {k : IntKind} {t : Nat} (ht : P.underlying t = some (.int k)) : Opn P t 1 (fun n : Int => (Lit.int k n).wf = true) (fun n => .cons (.int k n) .nil) := by
  intro H enc w base spare held fuel cs y h
  obtain ⟨n, rfl, _, h2⟩ := DataW.trod_int ht h
  exact ⟨n, h2, rfl, fun u hu => by cases List.mem_singleton.1 hu; rfl, fun own γ m _ _ => ⟨_, _, rfl, rfl, rfl⟩⟩
theorem opn_bool {t : Nat} (ht : P.underlying t = some .bool) : Opn P t 1 (fun _ : Bool => True) (fun b => .cons (.b b) .nil) := by
  intro H enc w base spare held fuel cs y h
  obtain ⟨b, rfl, _⟩ := DataW.trod_bool ht h
  exact ⟨b, trivial, rfl, fun u hu => by cases List.mem_singleton.1 hu; rfl, fun own γ m _ _ => ⟨_, _, rfl, rfl, rfl⟩⟩
theorem opn_string {t : Nat} (ht : P.underlying t = some .string) : Opn P t 1 (fun s : ByteArray => s.size ≤ maxLen) (fun s => .cons (.s s) .nil) := by
  intro H enc w base spare held fuel cs y h
  obtain ⟨s, rfl, _, h2⟩ := DataW.trod_string ht h
  exact ⟨s, h2, rfl, fun u hu => by cases List.mem_singleton.1 hu; rfl, fun own γ m _ _ => ⟨_, _, rfl, rfl, rfl⟩⟩
theorem opnF_nil {i : Nat} : OpnF P [] i 0 (fun _ : Unit => True) (fun _ => .nil) := by
  intro H enc w base spare held cs _ hl
  have : cs.drop i = [] := List.drop_eq_nil_of_le (by omega)
  exact ⟨(), trivial, by rw [this]; exact (fun u hu => (by cases hu)), fun own γ m _ _ => this⟩
theorem opnF_cons {X Y : Type} {ok : X → Prop} {A : X → AV} {okr : Y → Prop} {B : Y → AV} {t i n m : Nat} {fs : List (Nat × Nat)} (hn : P.cellsOf t = n) (h : Opn P t n ok A) (hr : OpnF P fs (i + n) m okr B) :
    OpnF P ((i, t) :: fs) i (n + m) (fun x : X × Y => ok x.1 ∧ okr x.2) (fun x => (A x.1).app (B x.2)) := by
  intro H enc w base spare held cs hf hl
  obtain ⟨fuel, y, hy⟩ := hf (i, t) (by simp)
  obtain ⟨x, h1, h2, h3, h4⟩ := h H enc w base spare held fuel _ y hy
  obtain ⟨z, g1, g3, g4⟩ := hr H enc w base spare held cs (fun f hf' => hf f (by simp [hf'])) (by omega)
  have e : cs.drop i = ((cs.drop i).take n) ++ cs.drop (i + n) := by rw [← List.drop_drop, List.take_append_drop]
  simp only [hn] at h2 h3 h4
  refine ⟨(x, z), ⟨h1, g1⟩, fun u hu => ?_, fun own γ m' h5 h6 => ?_⟩
  · rw [e] at hu
    rcases List.mem_append.1 hu with hu | hu
    · exact h3 u hu
    · exact g3 u hu
  · rw [e]; exact (h4 own γ m' h5 h6).app (g4 own γ m' h5 h6)
theorem opn_struct {X : Type} {ok : X → Prop} {A : X → AV} {t n : Nat} {fs : Array Field} (ht : P.underlying t = some (.struct fs)) (hn : P.cellsOf t = n) (h : OpnF P (fs.toList.map fun f => (f.offset, f.type)) 0 n ok A) : Opn P t n ok A := by
  intro H enc w base spare held fuel cs y hy
  obtain ⟨k, hl, hf⟩ := inner_struct ht hy
  obtain ⟨x, h1, h2, h3⟩ := h H enc w base spare held cs (fun f hf' => by
    obtain ⟨g, hg, rfl⟩ := List.mem_map.1 hf'
    obtain ⟨j, hj, rfl⟩ := List.getElem_of_mem hg
    obtain ⟨y', hy'⟩ := hf j fs[j] (by simp at hj ⊢)
    exact ⟨k, y', by simpa using hy'⟩) (by omega)
  exact ⟨x, h1, by omega, by simpa using h2, by simpa using h3⟩
/-- A slice, whatever its elements. -/
theorem opn_slice {X : Type} [Inhabited X] {ok : X → Prop} {A : X → AV} {t e n : Nat} (ht : P.underlying t = some (.slice e)) (hn : P.cellsOf e = n) (h0 : 0 < n) (h : Opn P e n ok A) :
    Opn P t 1 (fun xs : List X => xs.length ≤ maxLen ∧ ∀ x ∈ xs, ok x) (fun xs => .cons (.rs false xs.length n (fun k j => (A (xs.getD k default)).nth j)) .nil) := by
  intro H enc w base spare held fuel cs y hy
  obtain ⟨a, len, c, els, rfl, hc, hm, hl, hrd, hel⟩ := inner_slice ht hn h0 hy
  have hx : ∀ el ∈ els, ∃ x : X, ok x ∧ el.length = n ∧ (∀ u ∈ el, u.oneCell' = true) ∧ ∀ (own : Bool → Nat → Prop) (γ : Nm → Value) (m : Md), (∀ b, ¬ own false b) → m.fr false = false → Reps w own γ (A x) m el := fun el he => by
    obtain ⟨_, k, y, hy⟩ := hel el he
    exact h H enc w base spare held k el y hy
  have key : ∀ els : List (List Value), (∀ el ∈ els, ∃ x : X, ok x ∧ el.length = n ∧ (∀ u ∈ el, u.oneCell' = true) ∧ ∀ (own : Bool → Nat → Prop) (γ : Nm → Value) (m : Md), (∀ b, ¬ own false b) → m.fr false = false → Reps w own γ (A x) m el) →
      ∃ xs : List X, xs.length = els.length ∧ (∀ x ∈ xs, ok x) ∧ ∀ (k : Nat) (el : List Value), els[k]? = some el → el.length = n ∧ (∀ u ∈ el, u.oneCell' = true) ∧ ∀ (own : Bool → Nat → Prop) (γ : Nm → Value) (m : Md), (∀ b, ¬ own false b) → m.fr false = false → Reps w own γ (A (xs.getD k default)) m el := by
    intro els
    induction els with
    | nil => intro _; exact ⟨[], rfl, (fun x hx => (by cases hx)), (fun k el h => (by simp at h))⟩
    | cons el els ih =>
      intro hall
      obtain ⟨x, h1, h2, h3, h4⟩ := hall el (by simp)
      obtain ⟨xs, g1, g2, g3⟩ := ih (fun e he => hall e (by simp [he]))
      refine ⟨x :: xs, by simp [g1], fun z hz => ?_, fun k el' hk => ?_⟩
      · rcases List.mem_cons.1 hz with rfl | hz
        · exact h1
        · exact g2 z hz
      · cases k with
        | zero => simp at hk; subst hk; exact ⟨h2, h3, h4⟩
        | succ k => simpa using g3 k el' (by simpa using hk)
  obtain ⟨xs, g1, g2, g3⟩ := key els hx
  have hlen : xs.length = len := by rw [g1, hl]
  refine ⟨xs, ⟨by omega, g2⟩, rfl, fun u hu => by cases List.mem_singleton.1 hu; rfl, fun own γ m ho hm' => ⟨_, _, rfl, ⟨a, c, by rw [hlen], by omega, fun hpos => ?_⟩, rfl⟩⟩
  obtain ⟨b, o, e1, e2, e3⟩ := hrd.2 (by omega)
  refine ⟨b, o, e1, e2, by rw [hm']; exact ho b, fun k j hk hj => ?_⟩
  have hk' : k < els.length := by omega
  obtain ⟨f1, f2, f3⟩ := g3 k els[k] (List.getElem?_eq_getElem hk')
  have hr := f3 own γ (.r (m.fr false)) ho (by rw [hm']; rfl)
  have hln : (A (xs.getD k default)).len = n := by rw [← hr.len]; exact f1
  obtain ⟨u, k1, k2⟩ := hr.nth (by rw [hln]; exact hj)
  refine ⟨u, e3 _ u ?_, f2 u (List.mem_of_getElem? k1), k2⟩
  have hl2 : ∀ el ∈ els, el.length = n := fun el he => (hel el he).1
  have fl : ∀ (els : List (List Value)), (∀ el ∈ els, el.length = n) → ∀ (k : Nat) (el : List Value), els[k]? = some el → els.flatten[k * n + j]? = el[j]? := by
    intro els
    induction els with
    | nil => intro _ k el h; simp at h
    | cons e0 els ih =>
      intro hall k el h
      rw [List.flatten_cons]
      cases k with
      | zero =>
        simp at h; subst h
        rw [Nat.zero_mul, Nat.zero_add, List.getElem?_append_left (by rw [hall _ (by simp)]; exact hj)]
      | succ k =>
        rw [List.getElem?_append_right (by rw [hall e0 (by simp), Nat.succ_mul]; omega), hall e0 (by simp), show (k + 1) * n + j - n = k * n + j by rw [Nat.succ_mul]; omega]
        exact ih (fun e he => hall e (by simp [he])) k el (by simpa using h)
  rw [fl els hl2 k els[k] (List.getElem?_eq_getElem hk')]
  exact k1
/-- A slice of integers. -/
theorem opn_ints {k : IntKind} {t e : Nat} (ht : P.underlying t = some (.slice e)) (he : P.underlying e = some (.int k)) (hn : P.cellsOf e = 1) :
    Opn P t 1 (fun xs : List Int => xs.length ≤ maxLen ∧ ∀ x ∈ xs, (Lit.int k x).wf = true) (fun xs => .cons (.ri false k xs) .nil) := by
  intro H enc w base spare held fuel cs y hy
  obtain ⟨xs, h1, h2, h3, h4⟩ := opn_slice ht hn (by omega) (opn_int he) H enc w base spare held fuel cs y hy
  refine ⟨xs, h1, h2, h3, fun own γ m ho hm => ?_⟩
  obtain ⟨v, us, e1, ⟨a, c, e2, hc, e3⟩, e4⟩ := h4 own γ m ho hm
  refine ⟨v, us, e1, ⟨a, c, e2, hc, fun hpos => ?_⟩, e4⟩
  obtain ⟨bk, o, k1, k2, k3, k4⟩ := e3 hpos
  refine ⟨bk, o, k1, k2, k3, fun i hi => ?_⟩
  obtain ⟨u, k5, _, k6⟩ := k4 i 0 hi (by omega)
  have k7 : u = .int k (xs.getD i default) := by simpa [AV.nth, Reps] using k6
  rw [k7] at k5
  simpa using k5

section
variable {X : Type} {ok : X → Prop} {A : X → AV} {H : Type} {enc : TypeId × Value → H} {w : World} {base : Nat} {spare : Nat → Bool} {held : Bool} {r : Reach} {b0 : Nat} {t n : Nat} {v : Value} {d : DataW H} {p : List MemPlace}
def Says (w : World) (v : Value) (a : AV) : Prop := ∀ (own : Bool → Nat → Prop) (γ : Nm → Value), (∀ b, ¬ own false b) → Reps w own γ a .o [v]
theorem arg_struct {fs : Array Field} (ht : P.underlying t = some (.struct fs)) (ho : Opn P t n ok A) (hv : Value.okWide P w r b0 t v) (h : DataW.Trod enc P w base spare held t v d p) : ∃ x, ok x ∧ Says w v (.agg (A x)) := by
  obtain ⟨fuel, hf⟩ := h
  obtain ⟨⟨l⟩, rfl, hsz⟩ := okWide_struct ht hv
  obtain ⟨x, h1, _, _, h4⟩ := ho H enc w base spare held fuel _ _ hf
  exact ⟨x, h1, fun own γ hb => ⟨l, rfl, by simpa [Value.cells] using h4 own γ .o hb rfl⟩⟩
theorem arg_one (hc : v.cells.toList = [v]) (ho : Opn P t n ok (fun x => .cons (A x) .nil)) (h : DataW.Trod enc P w base spare held t v d p) : ∃ x, ok x ∧ Says w v (A x) := by
  obtain ⟨fuel, hf⟩ := h
  obtain ⟨x, h1, _, _, h4⟩ := ho H enc w base spare held fuel _ _ hf
  refine ⟨x, h1, fun own γ hb => ?_⟩
  have h5 := h4 own γ .o hb rfl
  rw [hc] at h5
  obtain ⟨v', us, e, h6, h7⟩ := h5
  cases e; exact h6
theorem arg_slice {e : Nat} (ht : P.underlying t = some (.slice e)) (ho : Opn P t n ok (fun x => .cons (A x) .nil)) (hv : Value.okWide P w r b0 t v) (h : DataW.Trod enc P w base spare held t v d p) : ∃ x, ok x ∧ Says w v (A x) := by
  obtain ⟨a, l, c, rfl⟩ := okWide_slice ht hv
  exact arg_one rfl ho h
theorem arg_int {k : IntKind} (ht : P.underlying t = some (.int k)) (hv : Value.okWide P w r b0 t v) (h : DataW.Trod enc P w base spare held t v d p) : ∃ x : Int, (Lit.int k x).wf = true ∧ Says w v (.int k x) := by
  obtain ⟨a, rfl⟩ := okWide_int ht hv
  exact arg_one rfl (opn_int ht) h
theorem arg_bool (ht : P.underlying t = some .bool) (hv : Value.okWide P w r b0 t v) (h : DataW.Trod enc P w base spare held t v d p) : ∃ x : Bool, True ∧ Says w v (.b x) := by
  obtain ⟨a, rfl⟩ := okWide_bool ht hv
  exact arg_one rfl (opn_bool ht) h
theorem arg_string (ht : P.underlying t = some .string) (hv : Value.okWide P w r b0 t v) (h : DataW.Trod enc P w base spare held t v d p) : ∃ x : ByteArray, x.size ≤ maxLen ∧ Says w v (.s x) := by
  obtain ⟨a, rfl⟩ := okWide_string ht hv
  exact arg_one rfl (opn_string ht) h
end
end

theorem says_nil {w : World} : ∀ (own : Bool → Nat → Prop) (γ : Nm → Value), (∀ b, ¬ own false b) → Reps w own γ .nil .o [] := fun _ _ _ => rfl
theorem says_cons {w : World} {v : Value} {vs : List Value} {a l : AV} (h : Says w v a) (hl : ∀ (own : Bool → Nat → Prop) (γ : Nm → Value), (∀ b, ¬ own false b) → Reps w own γ l .o vs) :
    ∀ (own : Bool → Nat → Prop) (γ : Nm → Value), (∀ b, ¬ own false b) → Reps w own γ (.cons a l) .o (v :: vs) := fun own γ hb => ⟨v, vs, rfl, h own γ hb, hl own γ hb⟩
/-- From a function's contract to the law's walk. -/
theorem law_ofT {k : Nat} {A : AV} {vs : List Value} {W : World} (hF : Fn Tryd.prog k true A [] .tt []) (hn : ∀ N, ¬ A.has N) (ht : ∃ g, g = 1 ∧ g < W.heap.size ∧ ∃ t fr, W.heap[g]? = some (.cells (Lib.pow10Tab.map fun z => Value.int .u64 z).toArray t fr)) (hs : ∀ (own : Bool → Nat → Prop) (γ : Nm → Value), (∀ b, ¬ own false b) → Reps W own γ A .o vs) :
    Calls Tryd.prog k vs.toArray W fun e W' => e = .returned (.bool true) ∧ Below W.heap.size W W' := by
  have none : ∀ N x, ¬ AtL (lkx []) N x := fun N x ⟨y, h, _⟩ => by cases h
  have hown : ∀ b, ¬ ownL [] (fun _ => Value.bool false) b := fun b ⟨N, x, h, _⟩ => none N x h
  refine (hF.2 ⟨W, ownL [] (fun _ => Value.bool false), fun _ => Value.bool false, fun _ => False, fun b h => h.elim, fun b h => h.elim, (let ⟨g, h1, h2, h3⟩ := ht; ⟨g, h1, h2, hown g, h3⟩)⟩ vs ⟨rfl, fun N x h => absurd h (none N x), fun N x bk h => absurd h (none N x), fun N M x y bk h => absurd h (none N x), fun M x N h => absurd h (none M x)⟩
    (hs _ _ (fun b h => h.elim (hown b) (fun h => h.elim id (fun h => by cases h.1)))) (fun N hN => absurd hN (hn N))).mono fun e W' => ?_
  rintro ⟨v, γ, rfl, hfr, _, hr, _⟩
  have : v = .bool true := by simpa [Reps] using hr
  subst this
  exact ⟨rfl, hfr.os, hfr.tape, hfr.output, hfr.size, fun k hk => hfr.block k hk (hown k)⟩
end Go.Proofs.YtaopjdeigpiejaaDoor
