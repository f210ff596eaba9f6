/-
  The laws' arguments opened; results that are certain.
-/
import Derived.Test.YtbepgedckfhifaaGreatFiFd
namespace Go.Proofs.YtbepgedckfhifaaGreat
open Go.ChangeShapes Go.WideShapes Go.ChangeAt Go.RowKit Go.Deep
set_option linter.unusedVariables false
set_option maxRecDepth 100000
theorem Fn.tt {P : Program} {f : Nat} {nw : Bool} {a : AV} {σ σ' : List (Nat × Blk)} {x : Bool} (h : Fn P f nw a σ (.b x) σ') (hx : x = true) : Fn P f nw a σ .tt σ' := by
  subst hx
  exact ⟨h.1, fun E vs h1 h2 h3 => (h.2 E vs h1 h2 h3).mono fun e w' ⟨v, γ, k1, k2, k3, k4, k5, k6⟩ => ⟨v, γ, k1, k2, k3, k4, k5, k6⟩⟩
theorem Fn.res {P : Program} {f : Nat} {nw : Bool} {a r r' : AV} {σ σ' : List (Nat × Blk)} (h : Fn P f nw a σ r σ') (hx : r = r') : Fn P f nw a σ r' σ' := hx ▸ h
def W64 (x : Int) : Prop := (Lit.int .i64 x).wf = true
theorem opn_intS : Opn Tryz.prog 22 1 (fun xs : List Int => xs.length ≤ maxLen ∧ ∀ x ∈ xs, (Lit.int .i64 x).wf = true) (fun xs => .cons (.ri false .i64 xs) .nil) := opn_ints Tryz.underlying22 Tryz.underlying3 (by kernel_rfl)
theorem opn_Edg : Opn Tryz.prog 116 3 (fun x : Edg => W64 x.1 ∧ W64 x.2.1 ∧ W64 x.2.2.1 ∧ True) EdgA :=
  opn_struct Tryz.underlying116 (by kernel_rfl) (opnF_cons (i := 0) (n := 1) (m := 2) (by kernel_rfl) (opn_int Tryz.underlying3) (opnF_cons (i := 1) (n := 1) (m := 1) (by kernel_rfl) (opn_int Tryz.underlying3) (opnF_cons (i := 2) (n := 1) (m := 0) (by kernel_rfl) (opn_int Tryz.underlying3) opnF_nil)))
theorem opn_Gr : Opn Tryz.prog 49 2 (fun g : Gr => W64 g.1 ∧ (g.2.1.length ≤ maxLen ∧ ∀ x ∈ g.2.1, W64 x.1 ∧ W64 x.2.1 ∧ W64 x.2.2.1 ∧ True) ∧ True) (fun g => .cons (.I g.1) (.cons (.rs false g.2.1.length 3 (cellsA EdgA g.2.1)) .nil)) :=
  opn_struct Tryz.underlying49 (by kernel_rfl) (opnF_cons (i := 0) (n := 1) (m := 1) (by kernel_rfl) (opn_int Tryz.underlying3) (opnF_cons (i := 1) (n := 1) (m := 0) (by kernel_rfl) (opn_slice Tryz.underlying47 (by kernel_rfl) (by omega) opn_Edg) opnF_nil))
end Go.Proofs.YtbepgedckfhifaaGreat
