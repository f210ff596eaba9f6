/-
  The conditions under which a piece of code does what is said: operations, one after the other.
-/
import Derived.Test.YtbncmiglhjfcdaaCt
import Derived.WalkSpells
namespace Go.Proofs.Ytbncmiglhjfcdaa
open Go.RowKit
set_option linter.unusedVariables false

def AV.force (a : AV) (f : AV → Prop) : Prop :=
  match a with
  | .int k n => f (.int k n)
  | .b x => f (.b x)
  | .tt => f .tt
  | .ff => f .ff
  | .s x => f (.s x)
  | .c v => f (.c v)
  | .top => f .top
  | .nl => f .nl
  | .e0 => f .e0
  | .nil => f .nil
  | .cons a l => f (.cons a l)
  | .agg l => f (.agg l)
  | .tup l => f (.tup l)
  | .fn g l => f (.fn g l)
  | .op N j => f (.op N j)
  | .om N => f (.om N)
  | .os N => f (.os N)
  | .oe N st k j => f (.oe N st k j)
  | .ri g q xs => f (.ri g q xs)
  | .rs g n st cell => f (.rs g n st cell)
  | .rp g n st cell k j => f (.rp g n st cell k j)
  | .oi e k xs => f (.oi e k xs)
  | .ow e n st cell => f (.ow e n st cell)
def Blk.force (x : Blk) (f : Blk → Prop) : Prop :=
  match x with
  | .box l => l.force fun l => f (.box l)
  | .row e c => (match c with | .ints k xs => f (.row e (.ints k xs)) | .bools xs => f (.row e (.bools xs)) | .tab n st cell => f (.row e (.tab n st cell)))
  | .mp t m => f (.mp t m)
theorem force_eq (a : AV) (f : AV → Prop) : a.force f = f a := by cases a <;> rfl
theorem forceX_eq (x : Blk) (f : Blk → Prop) : x.force f = f x := by
  cases x with
  | box l => exact force_eq l (fun l => f (.box l))
  | row e c => cases c <;> rfl
  | mp t m => rfl
/-- A state written out: what its entries say is looked up once. -/
def AV.forceD : AV → (AV → Prop) → Prop
  | .cons a l, f => a.forceD fun a => l.forceD fun l => f (.cons a l)
  | .agg l, f => l.forceD fun l => f (.agg l)
  | .tup l, f => l.forceD fun l => f (.tup l)
  | .fn g l, f => l.forceD fun l => f (.fn g l)
  | .int k n, f => f (.int k n)
  | .b x, f => f (.b x)
  | .tt, f => f .tt
  | .ff, f => f .ff
  | .s x, f => f (.s x)
  | .c v, f => f (.c v)
  | .top, f => f .top
  | .nl, f => f .nl
  | .e0, f => f .e0
  | .nil, f => f .nil
  | .op N j, f => f (.op N j)
  | .om N, f => f (.om N)
  | .os N, f => f (.os N)
  | .oe N st k j, f => f (.oe N st k j)
  | .ri g q xs, f => f (.ri g q xs)
  | .rs g n st cell, f => f (.rs g n st cell)
  | .rp g n st cell k j, f => f (.rp g n st cell k j)
  | .oi e k xs, f => f (.oi e k xs)
  | .ow e n st cell, f => f (.ow e n st cell)
theorem forceD_eq : ∀ (a : AV) (f : AV → Prop), a.forceD f = f a := by
  intro a
  induction a with
  | cons a l iha ihl => intro f; unfold AV.forceD; rw [iha, ihl]
  | agg l ih => intro f; unfold AV.forceD; rw [ih]
  | tup l ih => intro f; unfold AV.forceD; rw [ih]
  | fn g l ih => intro f; unfold AV.forceD; rw [ih]
  | _ => intro f; rfl
def Blk.forceD (x : Blk) (f : Blk → Prop) : Prop :=
  match x with
  | .box l => l.forceD fun l => f (.box l)
  | .row e c => (match c with | .ints k xs => f (.row e (.ints k xs)) | .bools xs => f (.row e (.bools xs)) | .tab n st cell => f (.row e (.tab n st cell)))
  | .mp t m => (match m with | .ints k es => f (.mp t (.ints k es)) | .bools es => f (.mp t (.bools es)))
theorem forceXD_eq (x : Blk) (f : Blk → Prop) : x.forceD f = f x := by
  cases x with
  | box l => exact forceD_eq l (fun l => f (.box l))
  | row e c => cases c <;> rfl
  | mp t m => cases m <;> rfl
def forceSl : List (Nat × AV) → (List (Nat × AV) → Prop) → Prop
  | [], f => f []
  | (k, a) :: l, f => a.forceD fun a => forceSl l fun l => f ((k, a) :: l)
def forceBl : List (Nat × Option Blk) → (List (Nat × Option Blk) → Prop) → Prop
  | [], f => f []
  | (k, none) :: l, f => forceBl l fun l => f ((k, none) :: l)
  | (k, some x) :: l, f => x.forceD fun x => forceBl l fun l => f ((k, some x) :: l)
def natF (n : Nat) (f : Nat → Prop) : Prop := match n with | 0 => f 0 | m + 1 => f (m + 1)
def St.force (s : St) (f : St → Prop) : Prop := forceSl s.slots fun l => forceBl s.store fun b => natF s.n fun n => f ⟨l, b, n⟩
theorem forceSl_eq : ∀ (l : List (Nat × AV)) (f : List (Nat × AV) → Prop), forceSl l f = f l := by
  intro l
  induction l with
  | nil => intro f; rfl
  | cons p l ih => intro f; obtain ⟨k, a⟩ := p; unfold forceSl; rw [forceD_eq, ih]
theorem forceBl_eq : ∀ (l : List (Nat × Option Blk)) (f : List (Nat × Option Blk) → Prop), forceBl l f = f l := by
  intro l
  induction l with
  | nil => intro f; rfl
  | cons p l ih =>
    intro f; obtain ⟨k, a⟩ := p
    cases a with
    | none => unfold forceBl; rw [ih]
    | some x => unfold forceBl; rw [forceXD_eq, ih]
theorem natF_eq (n : Nat) (f : Nat → Prop) : natF n f = f n := by cases n <;> rfl
theorem forceS_eq (s : St) (f : St → Prop) : s.force f = f s := by unfold St.force; rw [forceSl_eq, forceBl_eq, natF_eq]
/-- Operations behind which the state is written out. -/
def heavyB : Op → Bool
  | .store _ _ _ => true
  | .mapUpdate _ _ _ _ => true
  | .insert _ _ _ _ => true
  | .call c => (match c.callee with | .builtin .append => true | .value _ => true | _ => false)
  | _ => false
def fK (o : Oper) (K : St → Prop) (s : St) : Prop := bif heavyB o.op then s.force K else K s
theorem fK_eq (o : Oper) (K : St → Prop) : fK o K = K := by
  funext s
  unfold fK
  cases heavyB o.op with
  | true => exact forceS_eq s K
  | false => rfl
/-- What is still to be walked. -/
structure Nx (p : Prop) : Prop where
  out : p
/-- A bool is decided where it comes up. -/
def AV.res : AV → AV
  | .b x => bif x then .tt else .ff
  | a => a
def AV.forceB (a : AV) (f : AV → Prop) : Prop :=
  match a with
  | .b x => (x = true → Nx (f .tt)) ∧ (x = false → Nx (f .ff))
  | a => a.force f
theorem forceB_iff {a : AV} {f : AV → Prop} (h : a.forceB f) : f a.res := by
  cases a with
  | b x =>
    cases x with
    | true => exact (h.1 rfl).out
    | false => exact (h.2 rfl).out
  | _ => exact h
theorem Reps.res {w : World} {own : Bool → Nat → Prop} {γ : Nm → Value} {a : AV} {m : Md} {vs : List Value} (h : Reps w own γ a m vs) : Reps w own γ a.res m vs := by
  cases a with
  | b x => cases x <;> exact h
  | _ => exact h
theorem has_res {a : AV} {L : Nm} (h : a.res.has L) : a.has L := by
  cases a with
  | b x => cases x <;> exact h
  | _ => exact h

/-- Operations that write, and calls of the functions in sf, to which memory may be lent. -/
def solidB (sf : List Nat) (o : Oper) : Bool :=
  match o.dst with
  | none => true
  | some _ => (match o.op with | .call c => (match c.callee with | .builtin .append => true | .value (.func f) => sf.contains f | _ => false) | _ => false)
def allow (sf : Option (List Nat)) (o : Oper) (ns : List Nm) : Bool := ns.isEmpty || (match sf with | none => true | some l => solidB l o)

def appVC (τ : List (Nat × TyI)) (s : St) (d : Nat) (c : Call) (K : St → Prop) : Prop :=
  match c.callee, c.args.toList, c.argTypes.toList with
  | .builtin .append, [x, y], [t, t'] =>
    bif Nat.beq t' t then
      (match ty? τ t with
       | some i =>
         (match ty? τ i.elem with
          | some e => bif Nat.blt 0 i.elem && Nat.blt 0 e.size && Nat.ble e.bytes 256 then (match appA s i.elem e.size (nm d) d (s.ev x) (s.ev y) with | .ok p s' => p ∧ Nx (K s') | .bad => False) else False
          | none => False)
       | none => False)
    else False
  | _, _, _ => False
def stoVC (s : St) (size : Nat) (a x : AV) (K : St → Prop) : Prop :=
  match a with
  | .op _ _ => (match stoA s size a x with | .ok _ s' => K s' | .bad => False)
  | _ => (match stoA s size a x with | .ok p s' => p ∧ Nx (K s') | .bad => False)
def trimVC (τ : List (Nat × TyI)) (s : St) (d t : Nat) (x lo : Operand) (K : St → Prop) : Prop :=
  match ty? τ t with
  | some i =>
    (match ty? τ i.elem with
     | some e => bif Nat.blt 0 i.elem && Nat.beq e.size 1 then (match trimA s i.elem d (s.ev x) (s.ev lo) with | .ok p s' => p ∧ Nx (K s') | .bad => False) else False
     | none => False)
  | none => False
def mupVC (τ : List (Nat × TyI)) (s : St) (t : Nat) (m k x : Operand) (K : St → Prop) : Prop :=
  match ty? τ t with
  | some i => (match i.mp with | some (kt, e) => (match ty? τ kt with | some ki => bif decide (ki.ik = some .i64) then (match mupA s t (s.ev m) (s.ev k) (s.ev x) with | .ok _ s' => K s' | .bad => False) else False | none => False) | none => False)
  | none => False
def ndB : List Nm → Bool
  | [] => true
  | N :: ns => (ns.all fun M => !Nat.beq M.r N.r) && ndB ns
def nestsB (lk : Nat → Option Blk) : Nat → List Nm → Bool
  | _, [] => true
  | i, N :: ns => (match lk i with | some y => N.p.isEmpty || y.nest | none => N.p.isEmpty) && nestsB lk (i + 1) ns
def callB (s : St) (ns : List Nm) (d : Nat) (σ : List (Nat × Blk)) : Bool :=
  ndB ns && Nat.ble ns.length low && (σ.all fun p => Nat.blt p.1 ns.length || (Nat.ble low p.1 && (s.rblk (p.1 + d * 16)).isNone)) && nestsB (lkx σ) 0 ns
def callVC (P : Program) (sf : Option (List Nat)) (o : Oper) (s : St) (d f : Nat) (args : AV) (K : AV → St → Prop) : Prop :=
  ∃ nw ns a0 σ0 r σ, Fn P f nw a0 σ0 r σ ∧ (callB s ns d σ && allow sf o ns) = true ∧ lends s ns nw 0 ns σ0 ∧ arg s ns nw 3 false args a0 ∧ Nx ((r.rn (ren ns d)).forceB fun a => K a (s.after ns d σ))
/-- Is a slice nil? Where it is empty, that is not told. -/
def nilVC (τ : List (Nat × TyI)) (s : St) (d t : Nat) (op : BinOp) (x : AV) (K : St → Prop) : Prop :=
  match ty? τ t with
  | some i =>
    bif Nat.blt 0 i.elem then
      (match op with
       | .eql =>
         (match x with
          | .ri _ _ xs => (xs.length = 0 → Nx (K (s.put d .tt))) ∧ Nx (K (s.put d .ff))
          | .rs _ n _ _ => (n = 0 → Nx (K (s.put d .tt))) ∧ Nx (K (s.put d .ff))
          | .nl => K (s.put d .tt)
          | _ => False)
       | .neq =>
         (match x with
          | .ri _ _ xs => (xs.length = 0 → Nx (K (s.put d .ff))) ∧ Nx (K (s.put d .tt))
          | .rs _ n _ _ => (n = 0 → Nx (K (s.put d .ff))) ∧ Nx (K (s.put d .tt))
          | .nl => K (s.put d .ff)
          | _ => False)
       | _ => False)
    else False
  | none => False
def boolOf : AV → Option Bool
  | .tt => some true
  | .ff => some false
  | _ => none
def sameA (x y : Bool) : AV := bif x then (bif y then .tt else .ff) else (bif y then .ff else .tt)
/-- Two bools. -/
def boolVC (P : Program) (s : St) (d t : Nat) (op : BinOp) (a b : AV) (K : St → Prop) : Prop :=
  match boolOf a, boolOf b with
  | some x, some y =>
    (match op with
     | .eql => P.underlying t = some .bool ∧ Nx ((sameA x y).force fun r => K (s.put d r))
     | .neq => P.underlying t = some .bool ∧ Nx ((sameA x (!y)).force fun r => K (s.put d r))
     | _ => False)
  | _, _ => False
def binVC (P : Program) (τ : List (Nat × TyI)) (s : St) (d t : Nat) (op : BinOp) (x y : Operand) (K : St → Prop) : Prop :=
  match y with
  | .const (.slice none 0 0) => nilVC τ s d t op (s.ev x) K
  | y => boolVC P s d t op (s.ev x) (s.ev y) K
def opVC (P : Program) (τ : List (Nat × TyI)) (sf : Option (List Nat)) (o : Oper) (s : St) (K : St → Prop) : Prop :=
  match o.dst with
  | some d =>
    bif Nat.blt d s.n then
      (match q τ (nm d) s o.op with
       | .val a => a.forceB fun a => K (s.put d a)
       | .cond p a => p ∧ Nx (a.forceB fun a => K (s.put d a))
       | .ar k n => (inK k n ∧ Nx (K (s.put d (.int k n)))) ∨ Nx (K (s.put d (.int k (k.wrap n))))
       | .idx m n f => ∃ k : Nat, m = (k : Int) ∧ k < n ∧ Nx ((f k).forceB fun a => K (s.put d a))
       | .split x a b => (x = true → Nx (a.forceB fun a => K (s.put d a))) ∧ (x = false → Nx (b.forceB fun a => K (s.put d a)))
       | .new x a => (match s.rblk (nm d) with | none => x.force fun x => a.forceB fun a => K ((s.setB (nm d) (some x)).put d a) | some _ => False)
       | .mk m c f a => (match s.rblk (nm d) with | none => ∃ n k : Nat, m = (n : Int) ∧ c = (k : Int) ∧ n ≤ k ∧ k ≤ 274877906944 ∧ Nx (a.forceB fun a => K ((s.setB (nm d) (some (f n))).put d a)) | some _ => False)
       | .slc lo hi n f => ∃ l h : Nat, lo.getD 0 = (l : Int) ∧ hi.getD n = (h : Int) ∧ l ≤ h ∧ h ≤ n ∧ Nx ((f l h).forceB fun a => K (s.put d a))
       | .call f args => callVC P sf o s d f args fun a s => K (s.put d a)
       | .bad => (match o.op with | .call c => appVC τ s d c K | .slice t x (some lo) none none => (match sf with | none => trimVC τ s d t x lo K | some _ => False) | .binOp op t x y _ => (match sf with | none => binVC P τ s d t op x y K | some _ => False) | _ => False))
    else False
  | none =>
    (match o.op with
     | .store t a x => (match ty? τ t with | some i => bif Nat.blt 0 i.size then stoVC s i.size (s.ev a) (s.ev x) K else False | none => False)
     | .mapUpdate t m k x => mupVC τ s t m k x K
     | .insert t m k x => mupVC τ s t m k x K
     | .call c => (match q τ (nm s.n) s (.call c) with | .call f args => callVC P sf o s s.n f args fun _ s => K s | _ => False)
     | _ => False)

/-- An operation that its guard leaves out. -/
def skipVC (o : Oper) (s : St) (K : St → Prop) : Prop := match o.dst with | some d => bif Nat.blt d s.n then K (s.put d (.c (.tuple #[]))) else False | none => K s
def opsVC (P : Program) (τ : List (Nat × TyI)) (sf : Option (List Nat)) (ops : Array Oper) : List Oper → (St → Prop) → St → Prop
  | [], K, s => K s
  | o :: rest, K, s =>
    match o.guard with
    | none => opVC P τ sf o s (fK o (opsVC P τ sf ops rest K))
    | some (j, want) =>
      match (ops[j]?).bind (·.dst) with
      | none => False
      | some dj =>
        match s.slot dj with
        | .tt => bif want then opVC P τ sf o s (fK o (opsVC P τ sf ops rest K)) else skipVC o s (opsVC P τ sf ops rest K)
        | .ff => bif want then skipVC o s (opsVC P τ sf ops rest K) else opVC P τ sf o s (fK o (opsVC P τ sf ops rest K))
        | .c (.tuple _) => skipVC o s (opsVC P τ sf ops rest K)
        | _ => False

section
variable {P : Program} {τ : List (Nat × TyI)} {sf : Option (List Nat)} {E : Ent0} {w : World} {s : St} {a : Act} {γ : Nm → Value}

theorem ndB_spec : ∀ {ns : List Nm}, ndB ns = true → (ns.map Nm.r).Nodup
  | [], _ => List.nodup_nil
  | N :: ns, h => by
    simp only [ndB, Bool.and_eq_true] at h
    rw [List.map_cons, List.nodup_cons]
    refine ⟨fun hm => ?_, ndB_spec h.2⟩
    obtain ⟨M, hM, e⟩ := List.mem_map.1 hm
    have := (List.all_eq_true.1 h.1) M hM
    rw [e, Nat.beq_refl] at this; cases this
theorem nestsB_spec {lk : Nat → Option Blk} : ∀ {ns : List Nm} {i : Nat}, nestsB lk i ns = true → (∀ k N y, ns[k]? = some N → lk (i + k) = some y → N.p ≠ [] → y.nest = true) ∧ ∀ k N, ns[k]? = some N → lk (i + k) = none → N.p = []
  | [], _, _ => ⟨fun k N y h => by simp at h, fun k N h => by simp at h⟩
  | N0 :: ns, i, h => by
    simp only [nestsB, Bool.and_eq_true] at h
    obtain ⟨h1, h2⟩ := nestsB_spec h.2
    refine ⟨fun k N y hN hy hp => ?_, fun k N hN hy => ?_⟩
    · cases k with
      | zero =>
        obtain rfl : N0 = N := by simpa using hN
        have h3 := h.1
        rw [show lk i = some y from hy] at h3
        simp only [Bool.or_eq_true] at h3
        exact h3.resolve_left (fun h4 => hp (by simpa using h4))
      | succ k => exact h1 k N y (by simpa using hN) (by rw [← hy]; congr 1; omega) hp
    · cases k with
      | zero =>
        obtain rfl : N0 = N := by simpa using hN
        have h3 := h.1
        rw [show lk i = none from hy] at h3
        simpa using h3
      | succ k => exact h2 k N (by simpa using hN) (by rw [← hy]; congr 1; omega)
theorem lkx_all {σ : List (Nat × Blk)} {p : Nat → Prop} (h : ∀ q ∈ σ, p q.1) : ∀ L x, lkx σ L = some x → p L := by
  intro L x
  induction σ with
  | nil => intro h1; cases h1
  | cons q σ ih =>
    intro h1
    simp only [lkx] at h1
    cases hb : Nat.beq q.1 L with
    | true => rw [← Nat.eq_of_beq_eq_true hb]; exact h q (by simp)
    | false => rw [hb] at h1; exact ih (fun q' hq' => h q' (by simp [hq'])) h1
theorem callOk_of {ns : List Nm} {d : Nat} {nw : Bool} {args a0 : AV} {σ0 σ : List (Nat × Blk)} (hb : callB s ns d σ = true) (h1 : lends s ns nw 0 ns σ0) (h2 : arg s ns nw 3 false args a0) : CallOk s ns d nw args a0 σ0 σ := by
  unfold callB at hb
  simp only [Bool.and_eq_true] at hb
  obtain ⟨⟨⟨b1, b2⟩, b3⟩, b4⟩ := hb
  obtain ⟨n1, n2⟩ := nestsB_spec b4
  refine ⟨ndB_spec b1, Nat.le_of_ble_eq_true b2, h1, ⟨s, fun _ _ _ e => e, h2⟩, ?_, fun k N y hN hy => n1 k N y hN (by rw [Nat.zero_add]; exact hy), fun k N hN hy => n2 k N hN (by rw [Nat.zero_add]; exact hy)⟩
  refine lkx_all (fun q hq => ?_)
  have := (List.all_eq_true.1 b3) q hq
  simp only [Bool.or_eq_true, Bool.and_eq_true] at this
  rcases this with h3 | ⟨h3, h4⟩
  · exact .inl (by rw [Nat.blt_eq] at h3; exact h3)
  · exact .inr ⟨Nat.le_of_ble_eq_true h3, Option.isNone_iff_eq_none.1 h4⟩

theorem sto_op {size j : Nat} {N : Nm} {x : AV} {p : Prop} {s' : St} (h : stoA s size (.op N j) x = .ok p s') : p := by
  simp only [stoA] at h
  split at h
  · cases hb : (x.flat && Nat.beq x.cells.len size && Nat.ble (j + size) _) with
    | false => rw [hb] at h; cases h
    | true => rw [hb] at h; cases h; trivial
  · cases h
theorem mup_p {t : Nat} {a k x : AV} {p : Prop} {s' : St} (h : mupA s t a k x = .ok p s') : p := by
  unfold mupA cond at h
  repeat' split at h
  all_goals first | (cases h; done) | (cases h; trivial)

theorem run_enter {f : FuncId} {fn : Func} {c : Code} (hf : P.funcs[f]? = some fn) (hname : (fn.name == "runtime.NumGoroutine") = false) (hb : fn.body = some c) (args : Array Value) (w : World) :
    (callFunc f args).run P w = .ok (.enter f args) w := by
  have h1 : fn.name ≠ "runtime.NumGoroutine" := by simpa using hname
  simp [callFunc, hf, h1, hb]
/-- Only a call of a function value is left to a contract. -/
theorem q_call {L g : Nat} {o : Op} {args : AV} (h : q τ L s o = .call g args) : ∃ c f caps, o = .call c ∧ c.callee = .value f ∧ s.ev f = .fn g caps ∧ args = (s.evs c.args.toList).app caps := by
  cases o with
  | call c =>
    simp only [q] at h
    split at h
    · exfalso
      unfold lenA cond at h
      repeat' split at h
      all_goals cases h
    · exfalso
      repeat' split at h
      all_goals cases h
    · exfalso
      repeat' split at h
      all_goals cases h
    · rename_i f hf
      split at h
      · rename_i g' caps he
        cases h
        exact ⟨c, f, caps, rfl, hf, he, rfl⟩
      · cases h
    · cases h
  | _ =>
    exfalso
    unfold q at h
    first
      | (cases h; done)
      | (unfold loadA addA idxA binA notA sliceA slice0A lkA cond at h
         repeat' split at h
         all_goals first | contradiction | (cases h; done))
      | (unfold loadA cond at h
         repeat' split at h
         all_goals first | contradiction | (cases h; done))
      | (unfold addA cond at h
         repeat' split at h
         all_goals first | contradiction | (cases h; done))
      | (unfold idxA cond at h
         repeat' split at h
         all_goals first | contradiction | (cases h; done))
      | (unfold binA cond at h
         repeat' split at h
         all_goals first | contradiction | (cases h; done))
      | (unfold notA at h
         repeat' split at h
         all_goals first | contradiction | (cases h; done))
      | (unfold sliceA slice0A cond at h
         repeat' split at h
         all_goals first | contradiction | (cases h; done))
      | (unfold lkA cond at h
         repeat' split at h
         all_goals first | contradiction | (cases h; done))
      | (unfold cond at h
         repeat' split at h
         all_goals first | contradiction | (cases h; done))
      | (repeat' split at h
         all_goals first | contradiction | (cases h; done))
end
end Go.Proofs.Ytbncmiglhjfcdaa
