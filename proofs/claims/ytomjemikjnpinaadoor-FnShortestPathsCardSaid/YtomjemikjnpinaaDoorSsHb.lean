/-
  The greatest flow and the least cut, in plain words.
-/
import Derived.Test.YtomjemikjnpinaaDoorSsFy
import Derived.Test.YtomjemikjnpinaaDoorSsGf
namespace Go.Proofs.YtomjemikjnpinaaDoor
set_option linter.unusedVariables false
set_option linter.unusedSimpArgs false
/-- What leads out of some nodes, of the first n edges. -/
def cutS (B : Int → Bool) (es : List Edg) : Nat → Int
  | 0 => 0
  | n + 1 => cutS B es n + if B (es.getD n default).1 = true ∧ B (es.getD n default).2.1 = false then (es.getD n default).2.2.1 else 0
def netB (g : Gr) (f : List Int) (B : Int → Bool) (n : Nat) : Int := sumIf (fun e => B e.1) g.2.1 f n - sumIf (fun e => B e.2.1) g.2.1 f n
def sumN (v : Int → Int) : List Int → Int
  | [] => 0
  | x :: l => v x + sumN v l
/-- A flow from s to t of some value. -/
structure FlowV (g : Gr) (f : List Int) (s t : Int) (v : Int) : Prop where
  ok : FlowOk g f
  net : ∀ b, netS g f b g.2.1.length = (if s = b then v else 0) - (if t = b then v else 0)
def mcL (g : Gr) (s t : Int) : List Int := keys (mfM g (mfF g s t) s)
section
attribute [local irreducible] mcL mfF mfM reachL cutS
end
end Go.Proofs.YtomjemikjnpinaaDoor
