/-
  Ranges, orders of edges, graphs that are valid.
-/
import Derived.Test.YtbepgedckfhifaaGreatSuFd
namespace Go.Proofs.YtbepgedckfhifaaGreat
set_option linter.unusedVariables false
set_option linter.unusedSimpArgs false
set_option maxRecDepth 100000
set_option maxHeartbeats 4000000
attribute [local irreducible] Fn
theorem l1In_fn (n a b : Int) : Fn Tryz.prog 65 true (.cons (.I n) (.cons (.I a) (.cons (.I b) .nil))) [] (.b (decide (a ≤ n ∧ n ≤ b))) [] := by
  (refine Fn_of tysOk Tryz.func65 rfl rfl (by simp [AV.len, Tryz.f65]) ⟨?_⟩; conv => whnf)
  (repeat' first | (refine splitD (fun hs => Nx.mk ?_) (fun hs => Nx.mk ?_) <;> ((try simp only [Ct.len] at hs); revert hs; intro _; conv => whnf)) | (refine splitB (fun _ => Nx.mk ?_) (fun _ => Nx.mk ?_) <;> conv => whnf) | ((first | refine zA ?_ | refine zB ?_ | refine zC ?_ | refine zD ?_ | refine zE ?_ | refine zF ?_ | refine zG ?_ | fail); conv => whnf)|(refine nilQ (fun _ => Nx.mk ?_) (Nx.mk ?_) <;> conv => whnf) | ((first | refine condN Tryz.underlying4 (Nx.mk ?_) | refine zH ?_ | refine Nx.mk ?_); conv => whnf))
  all_goals ((refine ⟨[], rfl, ⟨rfl, rfl, trivial, trivial⟩, ?_, ⟨?_, trivial⟩, fun _ => ⟨?_, trivial⟩⟩ <;> ((repeat' ((try conv => whnf); (first | exact zV | refine And.intro ?_ ?_ | refine cellJ (fun _ _ => ?_) | (refine cellB ?_; (conv => whnf); refine And.intro ?_ ?_) | fail))) <;> (try conv => whnf))); simp_all; try omega)
theorem inRange_fn (n a b : Int) : Fn Tryz.prog 76 true (.cons (.I n) (.cons (.I a) (.cons (.I b) .nil))) [] (.b (decide (a ≤ n ∧ n ≤ b))) [] := by
  (refine Fn_of tysOk Tryz.func76 rfl rfl (by simp [AV.len, Tryz.f76]) ⟨?_⟩; conv => whnf)
  (repeat' first | (refine splitD (fun hs => Nx.mk ?_) (fun hs => Nx.mk ?_) <;> ((try simp only [Ct.len] at hs); revert hs; intro _; conv => whnf)) | (refine splitB (fun _ => Nx.mk ?_) (fun _ => Nx.mk ?_) <;> conv => whnf) | ((first | refine zA ?_ | refine zB ?_ | refine zC ?_ | refine zD ?_ | refine zE ?_ | refine zF ?_ | refine zG ?_ | fail); conv => whnf)|(refine nilQ (fun _ => Nx.mk ?_) (Nx.mk ?_) <;> conv => whnf) | ((first | refine condN Tryz.underlying4 (Nx.mk ?_) | refine zH ?_ | refine Nx.mk ?_); conv => whnf))
  all_goals ((refine ⟨[], rfl, ⟨rfl, rfl, trivial, trivial⟩, ?_, ⟨?_, trivial⟩, fun _ => ⟨?_, trivial⟩⟩ <;> ((repeat' ((try conv => whnf); (first | exact zV | refine And.intro ?_ ?_ | refine cellJ (fun _ _ => ?_) | (refine cellB ?_; (conv => whnf); refine And.intro ?_ ?_) | fail))) <;> (try conv => whnf))); simp_all; try omega)
def LessE (a b : Edg) : Prop := a.1 < b.1 ∨ a.1 = b.1 ∧ a.2.1 < b.2.1
instance (a b : Edg) : Decidable (LessE a b) := inferInstanceAs (Decidable (_ ∨ _))
def cmpI (a b : Int) : Int := if a < b then -1 else if b < a then 1 else 0
def cmpE (a b : Edg) : Int := if cmpI a.1 b.1 ≠ 0 then cmpI a.1 b.1 else cmpI a.2.1 b.2.1
def EdgeOk (n : Int) (es : List Edg) (i : Nat) : Prop :=
  let e := es.getD i default
  0 ≤ e.1 ∧ e.1 ≤ n ∧ 0 ≤ e.2.1 ∧ e.2.1 ≤ n ∧ e.1 ≠ e.2.1 ∧ 1 ≤ e.2.2.1 ∧ e.2.2.1 ≤ 8 ∧ (0 < i → LessE (es.getD (i - 1) default) e)
structure ValidG (g : Gr) : Prop where
  lo : 1 ≤ g.1
  hi : g.1 ≤ 8
  len : g.2.1.length ≤ 20
  edge : ∀ i, i < g.2.1.length → EdgeOk (g.1 - 1) g.2.1 i
open Classical in
noncomputable def validG (g : Gr) : Bool := decide (ValidG g)
end Go.Proofs.YtbepgedckfhifaaGreat
