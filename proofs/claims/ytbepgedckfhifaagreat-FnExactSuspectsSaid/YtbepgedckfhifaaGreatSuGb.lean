/-
  Vectors and plans that are valid.
-/
import Derived.Test.YtbepgedckfhifaaGreatSuGa
import Derived.Test.YtbepgedckfhifaaGreatSuFe
namespace Go.Proofs.YtbepgedckfhifaaGreat
set_option linter.unusedVariables false
set_option linter.unusedSimpArgs false
set_option maxRecDepth 100000
set_option maxHeartbeats 4000000
attribute [local irreducible] Fn
theorem sEl_fn (x : Int) : Fn Tryz.prog 159 true (.cons (.I x) .nil) [] (.b (decide (0 ≤ x ∧ x ≤ 1018))) [] := by
  (refine Fn_of tysOk Tryz.func159 rfl rfl (by simp [AV.len, Tryz.f159]) ⟨?_⟩; conv => whnf)
  (repeat' first | ((with_reducible show ∃ _ : Bool, _); first | (refine ⟨_, [], _, [], _, _, l1In_fn _ _ _, rfl, trivial, zW, Nx.mk ?_⟩; conv => whnf))  | (refine splitD (fun hs => Nx.mk ?_) (fun hs => Nx.mk ?_) <;> ((try simp only [Ct.len] at hs); revert hs; intro _; conv => whnf)) | (refine splitB (fun _ => Nx.mk ?_) (fun _ => Nx.mk ?_) <;> conv => whnf) | ((first | refine zA ?_ | refine zB ?_ | refine zC ?_ | refine zD ?_ | refine zE ?_ | refine zF ?_ | refine zG ?_ | fail); conv => whnf)|(refine nilQ (fun _ => Nx.mk ?_) (Nx.mk ?_) <;> conv => whnf) | ((first | refine condN Tryz.underlying4 (Nx.mk ?_) | refine zH ?_ | refine Nx.mk ?_); conv => whnf))
  all_goals ((refine ⟨[], rfl, ⟨rfl, rfl, trivial, trivial⟩, ?_, ⟨?_, trivial⟩, fun _ => ⟨?_, trivial⟩⟩ <;> ((repeat' ((try conv => whnf); (first | exact zV | refine And.intro ?_ ?_ | refine cellJ (fun _ _ => ?_) | (refine cellB ?_; (conv => whnf); refine And.intro ?_ ?_) | fail))) <;> (try conv => whnf))); (first | exact Eq.refl _ | exact decide_eq_true (by assumption) | exact decide_eq_false (by assumption) | exact (decide_eq_true (by omega)).symm | exact (decide_eq_false (by omega)).symm | exact decide_eq_true (by omega) | exact decide_eq_false (by omega)))
theorem iEl_fn (x : Int) : Fn Tryz.prog 173 true (.cons (.I x) .nil) [] (.b (decide (0 ≤ x ∧ x ≤ 1018))) [] := by
  (refine Fn_of tysOk Tryz.func173 rfl rfl (by simp [AV.len, Tryz.f173]) ⟨?_⟩; conv => whnf)
  (repeat' first | ((with_reducible show ∃ _ : Bool, _); first | (refine ⟨_, [], _, [], _, _, inRange_fn _ _ _, rfl, trivial, zW, Nx.mk ?_⟩; conv => whnf))  | (refine splitD (fun hs => Nx.mk ?_) (fun hs => Nx.mk ?_) <;> ((try simp only [Ct.len] at hs); revert hs; intro _; conv => whnf)) | (refine splitB (fun _ => Nx.mk ?_) (fun _ => Nx.mk ?_) <;> conv => whnf) | ((first | refine zA ?_ | refine zB ?_ | refine zC ?_ | refine zD ?_ | refine zE ?_ | refine zF ?_ | refine zG ?_ | fail); conv => whnf)|(refine nilQ (fun _ => Nx.mk ?_) (Nx.mk ?_) <;> conv => whnf) | ((first | refine condN Tryz.underlying4 (Nx.mk ?_) | refine zH ?_ | refine Nx.mk ?_); conv => whnf))
  all_goals ((refine ⟨[], rfl, ⟨rfl, rfl, trivial, trivial⟩, ?_, ⟨?_, trivial⟩, fun _ => ⟨?_, trivial⟩⟩ <;> ((repeat' ((try conv => whnf); (first | exact zV | refine And.intro ?_ ?_ | refine cellJ (fun _ _ => ?_) | (refine cellB ?_; (conv => whnf); refine And.intro ?_ ?_) | fail))) <;> (try conv => whnf))); (first | exact Eq.refl _ | exact decide_eq_true (by assumption) | exact decide_eq_false (by assumption) | exact (decide_eq_true (by omega)).symm | exact (decide_eq_false (by omega)).symm | exact decide_eq_true (by omega) | exact decide_eq_false (by omega)))
structure VecOk (v : List Int) : Prop where
  el : ∀ k, k < v.length → 0 ≤ v.getD k 0 ∧ v.getD k 0 ≤ 1018
  len : v.length ≤ 40
open Classical in
noncomputable def vecB (v : List Int) : Bool := decide (VecOk v)
theorem vecB_iff {v : List Int} : vecB v = true ↔ VecOk v := by simp [vecB]
theorem vecB_true {v : List Int} (h : VecOk v) : true = vecB v := (vecB_iff.2 h).symm
theorem vecB_false {v : List Int} (h : ¬ VecOk v) : false = vecB v := by simp [vecB, h]
attribute [local irreducible] vecB
theorem sVec_fn (v : List Int) (h : v.length ≤ 1048576) : Fn Tryz.prog 113 true (.cons (.ri false .i64 v) .nil) [] (.b (vecB v)) [] := by
  (refine Fn_of tysOk Tryz.func113 rfl rfl (by simp [AV.len, Tryz.f113]) ⟨?_⟩; conv => whnf)
  refine loopI tysOk [] (fun i : Nat => [(3, .I i)]) (fun i => []) (fun i => i ≤ v.length ∧ ∀ k, k < i → 0 ≤ v.getD k 0 ∧ v.getD k 0 ≤ 1018) (fun i => v.length - i) 0 ⟨Nat.zero_le _, fun k hk => absurd hk (by omega)⟩ ?_ ?_
  · ((try conv => whnf); refine ⟨rfl, by rfl, ?_, ?_⟩ <;> ((repeat' ((try conv => whnf); (first | exact zV | refine And.intro ?_ ?_ | refine cellJ (fun _ _ => ?_) | (refine cellB ?_; (conv => whnf); refine And.intro ?_ ?_) | fail))) <;> (try conv => whnf)))
  · rintro i ⟨hi, hall⟩
    (repeat' first | ((with_reducible show ∃ _ : Bool, _); first | (refine ⟨_, [], _, [], _, _, sEl_fn _, rfl, trivial, zW, Nx.mk ?_⟩; conv => whnf))  | (refine splitD (fun hs => Nx.mk ?_) (fun hs => Nx.mk ?_) <;> ((try simp only [Ct.len] at hs); revert hs; intro _; conv => whnf)) | (refine splitB (fun _ => Nx.mk ?_) (fun _ => Nx.mk ?_) <;> conv => whnf) | ((first | refine zA ?_ | refine zB ?_ | refine zC ?_ | refine zD ?_ | refine zE ?_ | refine zF ?_ | refine zG ?_ | fail); conv => whnf)|(refine nilQ (fun _ => Nx.mk ?_) (Nx.mk ?_) <;> conv => whnf) | ((first | refine condN Tryz.underlying4 (Nx.mk ?_) | refine zH ?_ | refine Nx.mk ?_); conv => whnf))
    · rename_i h3
      refine ⟨i + 1, ⟨by omega, fun k hk => ?_⟩, by omega, ?_⟩
      · by_cases e : k = i
        · rw [e]; exact h3
        · exact hall k (by omega)
      · ((try conv => whnf); refine ⟨rfl, by rfl, ?_, ?_⟩ <;> ((repeat' ((try conv => whnf); (first | exact zV | refine And.intro ?_ ?_ | refine cellJ (fun _ _ => ?_) | (refine cellB ?_; (conv => whnf); refine And.intro ?_ ?_) | fail))) <;> (try conv => whnf)))
    · (refine ⟨[], rfl, ⟨rfl, rfl, trivial, trivial⟩, ?_, ⟨?_, trivial⟩, fun _ => ⟨?_, trivial⟩⟩ <;> ((repeat' ((try conv => whnf); (first | exact zV | refine And.intro ?_ ?_ | refine cellJ (fun _ _ => ?_) | (refine cellB ?_; (conv => whnf); refine And.intro ?_ ?_) | fail))) <;> (try conv => whnf)))
      rename_i h3
      exact vecB_false (fun hv => h3 (hv.el i (by omega)))
    · (refine ⟨[], rfl, ⟨rfl, rfl, trivial, trivial⟩, ?_, ⟨?_, trivial⟩, fun _ => ⟨?_, trivial⟩⟩ <;> ((repeat' ((try conv => whnf); (first | exact zV | refine And.intro ?_ ?_ | refine cellJ (fun _ _ => ?_) | (refine cellB ?_; (conv => whnf); refine And.intro ?_ ?_) | fail))) <;> (try conv => whnf)))
      exact vecB_true ⟨fun k hk => hall k (by omega), by omega⟩
    · (refine ⟨[], rfl, ⟨rfl, rfl, trivial, trivial⟩, ?_, ⟨?_, trivial⟩, fun _ => ⟨?_, trivial⟩⟩ <;> ((repeat' ((try conv => whnf); (first | exact zV | refine And.intro ?_ ?_ | refine cellJ (fun _ _ => ?_) | (refine cellB ?_; (conv => whnf); refine And.intro ?_ ?_) | fail))) <;> (try conv => whnf)))
      exact vecB_false (fun hv => by have := hv.len; omega)
theorem iVec_fn (v : List Int) (h : v.length ≤ 1048576) : Fn Tryz.prog 134 true (.cons (.ri false .i64 v) .nil) [] (.b (vecB v)) [] := by
  (refine Fn_of tysOk Tryz.func134 rfl rfl (by simp [AV.len, Tryz.f134]) ⟨?_⟩; conv => whnf)
  (repeat' first | (refine splitD (fun hs => Nx.mk ?_) (fun hs => Nx.mk ?_) <;> ((try simp only [Ct.len] at hs); revert hs; intro _; conv => whnf)) | (refine splitB (fun _ => Nx.mk ?_) (fun _ => Nx.mk ?_) <;> conv => whnf) | ((first | refine zA ?_ | refine zB ?_ | refine zC ?_ | refine zD ?_ | refine zE ?_ | refine zF ?_ | refine zG ?_ | fail); conv => whnf)|(refine nilQ (fun _ => Nx.mk ?_) (Nx.mk ?_) <;> conv => whnf) | ((first | refine condN Tryz.underlying4 (Nx.mk ?_) | refine zH ?_ | refine Nx.mk ?_); conv => whnf))
  refine loopI tysOk [] (fun i : Nat => [(7, .I i)]) (fun i => []) (fun i => i ≤ v.length ∧ ∀ k, k < i → 0 ≤ v.getD k 0 ∧ v.getD k 0 ≤ 1018) (fun i => v.length - i) 0 ⟨Nat.zero_le _, fun k hk => absurd hk (by omega)⟩ ?_ ?_
  · ((try conv => whnf); refine ⟨rfl, by rfl, ?_, ?_⟩ <;> ((repeat' ((try conv => whnf); (first | exact zV | refine And.intro ?_ ?_ | refine cellJ (fun _ _ => ?_) | (refine cellB ?_; (conv => whnf); refine And.intro ?_ ?_) | fail))) <;> (try conv => whnf)))
  · rintro i ⟨hi, hall⟩
    (repeat' first | ((with_reducible show ∃ _ : Bool, _); first | (refine ⟨_, [], _, [], _, _, iEl_fn _, rfl, trivial, zW, Nx.mk ?_⟩; conv => whnf))  | (refine splitD (fun hs => Nx.mk ?_) (fun hs => Nx.mk ?_) <;> ((try simp only [Ct.len] at hs); revert hs; intro _; conv => whnf)) | (refine splitB (fun _ => Nx.mk ?_) (fun _ => Nx.mk ?_) <;> conv => whnf) | ((first | refine zA ?_ | refine zB ?_ | refine zC ?_ | refine zD ?_ | refine zE ?_ | refine zF ?_ | refine zG ?_ | fail); conv => whnf)|(refine nilQ (fun _ => Nx.mk ?_) (Nx.mk ?_) <;> conv => whnf) | ((first | refine condN Tryz.underlying4 (Nx.mk ?_) | refine zH ?_ | refine Nx.mk ?_); conv => whnf))
    · rename_i h3
      refine ⟨i + 1, ⟨by omega, fun k hk => ?_⟩, by omega, ?_⟩
      · by_cases e : k = i
        · rw [e]; exact h3
        · exact hall k (by omega)
      · ((try conv => whnf); refine ⟨rfl, by rfl, ?_, ?_⟩ <;> ((repeat' ((try conv => whnf); (first | exact zV | refine And.intro ?_ ?_ | refine cellJ (fun _ _ => ?_) | (refine cellB ?_; (conv => whnf); refine And.intro ?_ ?_) | fail))) <;> (try conv => whnf)))
    · (refine ⟨[], rfl, ⟨rfl, rfl, trivial, trivial⟩, ?_, ⟨?_, trivial⟩, fun _ => ⟨?_, trivial⟩⟩ <;> ((repeat' ((try conv => whnf); (first | exact zV | refine And.intro ?_ ?_ | refine cellJ (fun _ _ => ?_) | (refine cellB ?_; (conv => whnf); refine And.intro ?_ ?_) | fail))) <;> (try conv => whnf)))
      rename_i h3
      exact vecB_false (fun hv => h3 (hv.el i (by omega)))
    · (refine ⟨[], rfl, ⟨rfl, rfl, trivial, trivial⟩, ?_, ⟨?_, trivial⟩, fun _ => ⟨?_, trivial⟩⟩ <;> ((repeat' ((try conv => whnf); (first | exact zV | refine And.intro ?_ ?_ | refine cellJ (fun _ _ => ?_) | (refine cellB ?_; (conv => whnf); refine And.intro ?_ ?_) | fail))) <;> (try conv => whnf)))
      exact vecB_true ⟨fun k hk => hall k (by omega), by omega⟩
    · (refine ⟨[], rfl, ⟨rfl, rfl, trivial, trivial⟩, ?_, ⟨?_, trivial⟩, fun _ => ⟨?_, trivial⟩⟩ <;> ((repeat' ((try conv => whnf); (first | exact zV | refine And.intro ?_ ?_ | refine cellJ (fun _ _ => ?_) | (refine cellB ?_; (conv => whnf); refine And.intro ?_ ?_) | fail))) <;> (try conv => whnf)))
      exact vecB_false (fun hv => by have := hv.len; omega)
abbrev vecs (p : CodePlan_T) (i : Nat) : List (List Int) := (p.2.1.getD i default).1
structure EdgeVOk (g : Gr) (p : CodePlan_T) (i : Nat) : Prop where
  cap : ((vecs p i).length : Int) = (g.2.1.getD i default).2.2.1
  vec : ∀ k, k < (vecs p i).length → VecOk ((vecs p i).getD k default) ∧ (((vecs p i).getD k default).length : Int) = p.1
structure PlanOk (g : Gr) (p : CodePlan_T) : Prop where
  v : ValidG g
  d0 : 1 ≤ p.1
  d1 : p.1 ≤ 8
  len : p.2.1.length = g.2.1.length
  edge : ∀ i, i < p.2.1.length → EdgeVOk g p i
open Classical in
noncomputable def planB (g : Gr) (p : CodePlan_T) : Bool := decide (PlanOk g p)
end Go.Proofs.YtbepgedckfhifaaGreat
