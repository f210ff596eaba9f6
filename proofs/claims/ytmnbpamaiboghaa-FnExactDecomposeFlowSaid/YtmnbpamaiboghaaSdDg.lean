/-
  Regions that draw their order: two operations that are not ordered are told for each of their two orders, and the order that serves need not be the text's.
-/
import Derived.Test.YtmnbpamaiboghaaVC
import Derived.Orders
namespace Go.Proofs.Ytmnbpamaiboghaa
open Go.RowKit
set_option linter.unusedVariables false

/-- What is taken out of a tuple, or moved: it hangs on slots alone. -/
def eagO : Op → Bool
  | .extract (.tmp _) _ => true
  | .move _ => true
  | _ => false
def eagB2 (ops : Array Oper) (B : List Nat) (j : Nat) : Bool :=
  match ops[j]? with
  | some o =>
    (match o.dst, o.guard with
     | some _, none => eagO o.op && ops.toList.zipIdx.all fun (o', k) => Nat.beq j k || (B.getD j 0).testBit k || o'.after.toList.any (fun e => Region.binds .any e && Nat.beq e.on j) || o.apart ops o'
     | _, _ => false)
  | none => false
def exts2 (ops : Array Oper) : List Nat := let B := (Region.before ops).toList; (List.range ops.size).filter (eagB2 ops B)
def drawB3 (sf : List Nat) (ops : Array Oper) : Bool := let B := (Region.before ops).toList; certB ops.toList B && apartB2 sf ops ops.toList B (exts2 ops) && (exts2 ops).all (eagB2 ops B) && Region.noSelect ops
section
variable {P : Program} {τ : List (Nat × TyI)} {sf : List Nat} {ops : Array Oper} {st : Nat → St} {A : Nat → AV} {bs : Nat → List (Nat × Option Blk)}
end
/-- A whole order in which the operations may come up. -/
inductive Lin (ops : Array Oper) : Array Bool → List Nat → Prop where
  | nil {listed} : Region.ready .any ops listed = [] → Lin ops listed []
  | cons {listed i L} : i ∈ Region.ready .any ops listed → Lin ops (listed.setIfInBounds i true) L → Lin ops listed (i :: L)

section
variable {P : Program} {ops : Array Oper} {Q : Exit → Act → World → Prop}
end

/-- Whatever order is taken, the state that K lets pass is come to. -/
def VCL (P : Program) (ops : Array Oper) (K : Exit → St → Prop) (s : St) : Prop :=
  ∀ E a w, Den E s a w → ∀ L, Lin ops (Array.replicate ops.size false) L → wpOps P ops (fun e a w => e = .normal ∧ PostK E K .normal a w) L a w

section
variable {P : Program} {τ : List (Nat × TyI)} {sf : List Nat} {ops : Array Oper} {K : Exit → St → Prop} {s : St}
end

/-- Operation i comes behind operation j. -/
def addE (ops : Array Oper) (i j : Nat) : Array Oper := ops.mapIdx fun k o => bif Nat.beq k i then { o with after := o.after.push ⟨j, .chain⟩ } else o
section
variable {P : Program} {ops : Array Oper} {Q : Exit → Act → World → Prop} {i j : Nat}
end

/-- The operations in another order. -/
def renum (π : List Nat) (o : Oper) : Oper := { o with after := o.after.map (fun e => { e with on := π.idxOf e.on }), guard := match o.guard with | none => none | some (j, b) => some (π.idxOf j, b) }
def perm (π : List Nat) (ops : Array Oper) : Array Oper := (π.filterMap fun k => (ops[k]?).map (renum π)).toArray
def permB (π : List Nat) (ops : Array Oper) : Bool := Nat.beq π.length ops.size && (List.range ops.size).all (fun k => Nat.blt (π.getD k ops.size) ops.size && Nat.beq (π.idxOf (π.getD k ops.size)) k && Nat.beq (π.getD (π.idxOf k) ops.size) k)
section
variable {P : Program} {ops : Array Oper} {Q : Exit → Act → World → Prop} {π : List Nat}
structure PermOk (π : List Nat) (ops : Array Oper) : Prop where
  len : π.length = ops.size
  at_ : ∀ k, k < ops.size → π.getD k ops.size < ops.size ∧ π.idxOf (π.getD k ops.size) = k ∧ π.getD (π.idxOf k) ops.size = k
end

/-- Which order serves, by the orders of some pairs. -/
inductive Tr where
  | lf (π : List Nat)
  | nd (i j : Nat) (a b : Tr)
def okT (sf : List Nat) : Tr → Array Oper → Bool
  | .lf π, ops => permB π ops && drawB3 sf (perm π ops)
  | .nd i j a b, ops => !(Nat.beq i j) && Nat.blt i ops.size && Nat.blt j ops.size && okT sf a (addE ops i j) && okT sf b (addE ops j i)
/-- The same operations, but for what comes behind what. -/
def Sm (ops0 ops : Array Oper) : Prop := ∀ k : Nat, (ops[k]?).map (fun o : Oper => (o.dst, o.op, o.guard)) = (ops0[k]?).map (fun o : Oper => (o.dst, o.op, o.guard))
theorem Sm.addE {ops0 ops : Array Oper} {i j : Nat} (h : Sm ops0 ops) : Sm ops0 (addE ops i j) := by
  intro k
  rw [← h k]
  unfold Go.Proofs.Ytmnbpamaiboghaa.addE
  simp only [Array.getElem?_mapIdx, Option.map_map]
  cases ops[k]? with
  | none => rfl
  | some o => cases hb : Nat.beq k i <;> simp
def pick (π : List Nat) (ops : Array Oper) : List Oper := π.filterMap fun k => ops[k]?
/-- The orders that are to be walked. -/
def Tr.leaves : Tr → List (List Nat) → List (List Nat)
  | .lf π, l => π :: l
  | .nd _ _ a b, l => a.leaves (b.leaves l)
def VCT (P : Program) (τ : List (Nat × TyI)) (sf : List Nat) (K : Exit → St → Prop) (s : St) (ops : Array Oper) : List (List Nat) → Prop
  | [] => True
  | π :: l => Nx (opsVC P τ (some sf) ops (pick π ops) (fun s => K .normal s) s) ∧ VCT P τ sf K s ops l
/-- A tree that serves (to be printed). -/
def badPair (sf : List Nat) (ops : Array Oper) : Option (Nat × Nat) :=
  let B := (Region.before ops).toList
  let n := ops.size
  ((List.range n).flatMap fun i => (List.range n).map fun j => (i, j)).find? fun (i, j) =>
    match ops[i]?, ops[j]? with
    | some o, some o' => !(Nat.beq i j) && solidB sf o && !(ordB B i j) && !((exts2 ops).contains j && o'.after.toList.all fun e => !Region.binds .any e || (B.getD i 0).testBit e.on)
    | _, _ => false
def topo (ops : Array Oper) : Nat → Array Bool → List Nat
  | 0, _ => []
  | f + 1, l => match Region.ready .any ops l with
    | [] => []
    | x :: xs => let y := ((x :: xs).find? fun k => (exts2 ops).contains k).getD x; y :: topo ops f (l.setIfInBounds y true)
/-- The operations in the order of topo, for the table 'before'. -/
def mkT (sf : List Nat) : Nat → Array Oper → Tr
  | 0, ops => .lf []
  | f + 1, ops =>
    let π := topo ops ops.size (Array.replicate ops.size false)
    match badPair sf (perm π ops) with
    | none => .lf π
    | some (i, j) => let i := π.getD i 0; let j := π.getD j 0; .nd i j (mkT sf f (addE ops i j)) (mkT sf f (addE ops j i))
end Go.Proofs.Ytmnbpamaiboghaa
