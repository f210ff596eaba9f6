/-
  The laws' arguments opened; results that are certain.
-/
import Derived.Test.YtaopjdeigpiejaaDoorFd
namespace Go.Proofs.YtaopjdeigpiejaaDoor
open Go.ChangeShapes Go.WideShapes Go.ChangeAt Go.RowKit Go.Deep
set_option linter.unusedVariables false
set_option maxRecDepth 100000
theorem Fn.tt {P : Program} {f : Nat} {nw : Bool} {a : AV} {σ σ' : List (Nat × Blk)} {x : Bool} (h : Fn P f nw a σ (.b x) σ') (hx : x = true) : Fn P f nw a σ .tt σ' := by
  subst hx
  exact ⟨h.1, fun E vs h1 h2 h3 => (h.2 E vs h1 h2 h3).mono fun e w' ⟨v, γ, k1, k2, k3, k4, k5, k6⟩ => ⟨v, γ, k1, k2, k3, k4, k5, k6⟩⟩
theorem Fn.res {P : Program} {f : Nat} {nw : Bool} {a r r' : AV} {σ σ' : List (Nat × Blk)} (h : Fn P f nw a σ r σ') (hx : r = r') : Fn P f nw a σ r' σ' := hx ▸ h
def W64 (x : Int) : Prop := (Lit.int .i64 x).wf = true
theorem opn_intS : Opn Tryd.prog 22 1 (fun xs : List Int => xs.length ≤ maxLen ∧ ∀ x ∈ xs, (Lit.int .i64 x).wf = true) (fun xs => .cons (.ri false .i64 xs) .nil) := opn_ints Tryd.underlying22 Tryd.underlying3 (by kernel_rfl)
theorem opn_Path : Opn Tryd.prog 24 1 (fun x : L1 => (x.1.length ≤ maxLen ∧ ∀ y ∈ x.1, (Lit.int .i64 y).wf = true) ∧ True) (fun x => .cons (.ri false .i64 x.1) .nil) :=
  opn_struct Tryd.underlying24 (by kernel_rfl) (opnF_cons (i := 0) (n := 1) (m := 0) (by kernel_rfl) opn_intS opnF_nil)
end Go.Proofs.YtaopjdeigpiejaaDoor
