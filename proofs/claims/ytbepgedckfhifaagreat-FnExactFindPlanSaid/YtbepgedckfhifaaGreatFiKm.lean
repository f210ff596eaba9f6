/-
  Whether a plan serves its sinks, of both.
-/
import Derived.Test.YtbepgedckfhifaaGreatFiKk
namespace Go.Proofs.YtbepgedckfhifaaGreat
set_option linter.unusedVariables false
set_option linter.unusedSimpArgs false
set_option maxRecDepth 100000
set_option maxHeartbeats 4000000
attribute [local irreducible] Fn
noncomputable def psT (g : Gr) (p : CodePlan_T) (s : Int) : Bool := !decide ((nrV g p s : Int) = p.1)
noncomputable def psB (g : Gr) (p : CodePlan_T) (l : List Int) : Bool := planB g p && !(l.any (psT g p))
theorem psB_hit {g : Gr} {p : CodePlan_T} {l : List Int} {i : Nat} (hi : i < l.length) (h : psT g p (l.getD i default) = true) : psB g p l = false := by
  have : l.any (psT g p) = true := List.any_eq_true.2 ⟨l.getD i default, by rw [List.getD_eq_getElem?_getD, List.getElem?_eq_getElem hi]; exact List.getElem_mem hi, h⟩
  unfold psB
  rw [this]; simp
theorem psB_all {g : Gr} {p : CodePlan_T} {l : List Int} (h : ∀ k, k < l.length → psT g p (l.getD k default) = false) : psB g p l = planB g p := by
  have : l.any (psT g p) = false := by
    rw [List.any_eq_false]
    intro x hx
    obtain ⟨k, hk, rfl⟩ := List.getElem_of_mem hx
    have := h k hk
    rw [List.getD_eq_getElem?_getD, List.getElem?_eq_getElem hk] at this
    simpa using this
  unfold psB
  rw [this]; simp
attribute [local irreducible] planB psB nrV
abbrev GrF (g : Gr) : AV := .cons (.I g.1) (.cons (.rs false g.2.1.length 3 (cellsA EdgA g.2.1)) .nil)
abbrev capP (g : Gr) (p : CodePlan_T) : AV := .cons (.rp false 1 2 (fun _ j => (GrF g).nth j) 0 0) (.cons (.rp false 1 2 (fun _ j => (CodePlan_R p).nth j) 0 0) .nil)
theorem sPs_fn (g : Gr) (p : CodePlan_T) (l : List Int) (h : g.2.1.length ≤ 1048576) (hp : sz_CodePlan p ≤ 1048576) (hl : l.length ≤ 1048576) : Fn Tryz.prog 43 true (.cons (GrA g) (.cons (.agg (CodePlan_R p)) (.cons (.ri false .i64 l) .nil))) [] (.b (psB g p l)) [] := by
  (refine Fn_of tysOk Tryz.func43 rfl rfl (by simp [AV.len, Tryz.f43]) ⟨?_⟩; conv => whnf)
  (repeat' first | (refine zK (fun hs => ?_) (fun hs => ?_) <;> ((try simp only [Ct.len] at hs); revert hs; intro _; conv => whnf)) | (refine zI (fun _ => ?_) (fun _ => ?_)<;> conv => whnf)|((first|refine zA ?_|refine zB ?_|refine zC ?_|refine zD ?_|refine zE ?_|refine zF ?_|refine zG ?_|fail); conv => whnf)|(refine zJ (fun _ => ?_) ?_<;> conv => whnf)|((first | refine condN Tryz.underlying4 (Nx.mk ?_) | refine zH ?_ | refine Nx.mk ?_); conv => whnf))
  refine loopI tysOk [] (fun i : Nat => [(7, .I i)]) (fun i => []) (fun i => i ≤ l.length ∧ ∀ k, k < i → psT g p (l.getD k default) = false) (fun i => l.length - i) 0 ⟨Nat.zero_le _, fun k hk => absurd hk (by omega)⟩ ?_ ?_
  · ((try conv => whnf); refine ⟨rfl, by rfl, ?_, ?_⟩ <;> ((repeat' ((try conv => whnf); (first|exact zU|refine And.intro ?_ ?_|exact fun _ _ _ _ => Eq.refl _|refine cellJ (fun _ _ => ?_)|(refine cellB ?_; (conv => whnf); refine And.intro ?_ ?_)|exact zV|fail))) <;> (try conv => whnf)))
  rintro i ⟨hi, hall⟩
  by_cases hlt : i < l.length
  · have c1 := sNr_fn g p (l.getD i default) h hp
    have hd : psT g p (l.getD i default) = !decide ((nrV g p (l.getD i default) : Int) = p.1) := rfl
    (repeat' first | ((with_reducible show ∃ _ : Bool, _); first | (refine ⟨_, [], _, [], _, _, c1, rfl, trivial, zW, Nx.mk ?_⟩; conv => whnf)) | ((refine VC_draw (sf := []) tysOk (by kernel_rfl) (by kernel_rfl) (Nx.mk ?_); conv => whnf)) | (refine zK (fun hs => ?_) (fun hs => ?_) <;> ((try simp only [Ct.len] at hs); revert hs; intro _; conv => whnf)) | (refine zI (fun _ => ?_) (fun _ => ?_)<;> conv => whnf)|((first|refine zA ?_|refine zB ?_|refine zC ?_|refine zD ?_|refine zE ?_|refine zF ?_|refine zG ?_|fail); conv => whnf)|(refine zJ (fun _ => ?_) ?_<;> conv => whnf)|((first | refine condN Tryz.underlying4 (Nx.mk ?_) | refine zH ?_ | refine Nx.mk ?_); conv => whnf))
    (all_goals try first | contradiction | (exfalso; omega))
    all_goals first
      | (refine ⟨i + 1, ⟨by omega, fun k hk => ?_⟩, by omega, ?_⟩
         · by_cases e : k = i
           · rw [e, hd]; simp_all
           · exact hall k (by omega)
         · ((try conv => whnf); refine ⟨rfl, by rfl, ?_, ?_⟩ <;> ((repeat' ((try conv => whnf); (first|exact zU|refine And.intro ?_ ?_|exact fun _ _ _ _ => Eq.refl _|refine cellJ (fun _ _ => ?_)|(refine cellB ?_; (conv => whnf); refine And.intro ?_ ?_)|exact zV|fail))) <;> (try conv => whnf)))
         done)
      | ((refine ⟨[], rfl, ⟨rfl, rfl, trivial, trivial⟩, ?_, ⟨?_, trivial⟩, fun _ => ⟨?_, trivial⟩⟩ <;> ((repeat' ((try conv => whnf); (first|exact zU|refine And.intro ?_ ?_|exact fun _ _ _ _ => Eq.refl _|refine cellJ (fun _ _ => ?_)|(refine cellB ?_; (conv => whnf); refine And.intro ?_ ?_)|exact zV|fail))) <;> (try conv => whnf)))
         refine (psB_hit hlt ?_).symm
         rw [hd]; simp_all
         done)
      | trace_state
  · obtain rfl : i = l.length := by omega
    (repeat' first | ((with_reducible show ∃ _ : Bool, _); first | (refine ⟨_, [], _, [], _, _, sPlan_fn g p h hp, rfl, trivial, zW, Nx.mk ?_⟩; conv => whnf))  | (refine zK (fun hs => ?_) (fun hs => ?_) <;> ((try simp only [Ct.len] at hs); revert hs; intro _; conv => whnf)) | (refine zI (fun _ => ?_) (fun _ => ?_)<;> conv => whnf)|((first|refine zA ?_|refine zB ?_|refine zC ?_|refine zD ?_|refine zE ?_|refine zF ?_|refine zG ?_|fail); conv => whnf)|(refine zJ (fun _ => ?_) ?_<;> conv => whnf)|((first | refine condN Tryz.underlying4 (Nx.mk ?_) | refine zH ?_ | refine Nx.mk ?_); conv => whnf))
    (all_goals try first | contradiction | (exfalso; omega))
    all_goals first
      | ((refine ⟨[], rfl, ⟨rfl, rfl, trivial, trivial⟩, ?_, ⟨?_, trivial⟩, fun _ => ⟨?_, trivial⟩⟩ <;> ((repeat' ((try conv => whnf); (first|exact zU|refine And.intro ?_ ?_|exact fun _ _ _ _ => Eq.refl _|refine cellJ (fun _ _ => ?_)|(refine cellB ?_; (conv => whnf); refine And.intro ?_ ?_)|exact zV|fail))) <;> (try conv => whnf))); rw [psB_all hall]; simp_all; done)
      | trace_state
theorem ps1_fn (g : Gr) (p : CodePlan_T) (s : Int) (h : g.2.1.length ≤ 1048576) (hp : sz_CodePlan p ≤ 1048576) : Fn Tryz.prog 85 true (.cons (.I s) (capP g p)) [] (.b (psT g p s)) [] := by
  have c1 := iNr_fn g p s h hp
  have hd : psT g p s = !decide ((nrV g p s : Int) = p.1) := rfl
  (refine Fn_of tysOk Tryz.func85 rfl rfl (by simp [AV.len, Tryz.f85]) ⟨?_⟩; conv => whnf)
  (repeat' first | ((with_reducible show ∃ _ : Bool, _); first | (refine ⟨_, [], _, [], _, _, c1, rfl, trivial, zW, Nx.mk ?_⟩; conv => whnf)) | ((refine VC_draw (sf := []) tysOk (by kernel_rfl) (by kernel_rfl) (Nx.mk ?_); conv => whnf)) | (refine zK (fun hs => ?_) (fun hs => ?_) <;> ((try simp only [Ct.len] at hs); revert hs; intro _; conv => whnf)) | (refine zI (fun _ => ?_) (fun _ => ?_)<;> conv => whnf)|((first|refine zA ?_|refine zB ?_|refine zC ?_|refine zD ?_|refine zE ?_|refine zF ?_|refine zG ?_|fail); conv => whnf)|(refine zJ (fun _ => ?_) ?_<;> conv => whnf)|((first | refine condN Tryz.underlying4 (Nx.mk ?_) | refine zH ?_ | refine Nx.mk ?_); conv => whnf))
  (all_goals try first | contradiction | (exfalso; omega))
  all_goals first
    | ((refine ⟨[], rfl, ⟨rfl, rfl, trivial, trivial⟩, ?_, ⟨?_, trivial⟩, fun _ => ⟨?_, trivial⟩⟩ <;> ((repeat' ((try conv => whnf); (first|exact zU|refine And.intro ?_ ?_|exact fun _ _ _ _ => Eq.refl _|refine cellJ (fun _ _ => ?_)|(refine cellB ?_; (conv => whnf); refine And.intro ?_ ?_)|exact zV|fail))) <;> (try conv => whnf))); rw [hd]; simp_all; done)
    | trace_state
theorem indexFuncS_fn (g : Gr) (p : CodePlan_T) (xs : List Int) (h : g.2.1.length ≤ 1048576) (hp : sz_CodePlan p ≤ 1048576) (hx : xs.length ≤ 4194304) : Fn Tryz.prog 135 true (.cons (.ri false .i64 xs) (.cons (.fn 85 (capP g p)) .nil)) [] (.I (idxOf (psT g p) xs)) [] := by
  (refine Fn_of tysOk Tryz.func135 rfl rfl (by simp [AV.len, Tryz.f135]) ⟨?_⟩; conv => whnf)
  (repeat' first | (refine zK (fun hs => ?_) (fun hs => ?_) <;> ((try simp only [Ct.len] at hs); revert hs; intro _; conv => whnf)) | (refine zI (fun _ => ?_) (fun _ => ?_)<;> conv => whnf)|((first|refine zA ?_|refine zB ?_|refine zC ?_|refine zD ?_|refine zE ?_|refine zF ?_|refine zG ?_|fail); conv => whnf)|(refine zJ (fun _ => ?_) ?_<;> conv => whnf)|((first | refine condN Tryz.underlying4 (Nx.mk ?_) | refine zH ?_ | refine Nx.mk ?_); conv => whnf))
  refine loopI tysOk [] (fun i : Nat => [(8, .I i)]) (fun i => []) (fun i => i ≤ xs.length ∧ ∀ k, k < i → psT g p (xs.getD k default) = false) (fun i => xs.length - i) 0 ⟨Nat.zero_le _, fun k hk => absurd hk (by omega)⟩ ?_ ?_
  · ((try conv => whnf); refine ⟨rfl, by rfl, ?_, ?_⟩ <;> ((repeat' ((try conv => whnf); (first|exact zU|refine And.intro ?_ ?_|exact fun _ _ _ _ => Eq.refl _|refine cellJ (fun _ _ => ?_)|(refine cellB ?_; (conv => whnf); refine And.intro ?_ ?_)|exact zV|fail))) <;> (try conv => whnf)))
  · rintro i ⟨hi, hall⟩
    (repeat' first | ((with_reducible show ∃ _ : Bool, _); first | (refine ⟨_, [], _, [], _, _, ps1_fn g p (xs.getD i default) h hp, rfl, trivial, zW, Nx.mk ?_⟩; conv => whnf))  | (refine zK (fun hs => ?_) (fun hs => ?_) <;> ((try simp only [Ct.len] at hs); revert hs; intro _; conv => whnf)) | (refine zI (fun _ => ?_) (fun _ => ?_)<;> conv => whnf)|((first|refine zA ?_|refine zB ?_|refine zC ?_|refine zD ?_|refine zE ?_|refine zF ?_|refine zG ?_|fail); conv => whnf)|(refine zJ (fun _ => ?_) ?_<;> conv => whnf)|((first | refine condN Tryz.underlying4 (Nx.mk ?_) | refine zH ?_ | refine Nx.mk ?_); conv => whnf))
    · (refine ⟨[], rfl, ⟨rfl, rfl, trivial, trivial⟩, ?_, ⟨?_, trivial⟩, fun _ => ⟨?_, trivial⟩⟩ <;> ((repeat' ((try conv => whnf); (first|exact zU|refine And.intro ?_ ?_|exact fun _ _ _ _ => Eq.refl _|refine cellJ (fun _ _ => ?_)|(refine cellB ?_; (conv => whnf); refine And.intro ?_ ?_)|exact zV|fail))) <;> (try conv => whnf)))
      exact (idxOf_at (φ := psT g p) (i := i) (by omega) (by assumption) hall).symm
    · rename_i h1
      refine ⟨i + 1, ⟨by omega, fun k hk => ?_⟩, by omega, ?_⟩
      · by_cases e : k = i
        · rw [e]; exact h1
        · exact hall k (by omega)
      · ((try conv => whnf); refine ⟨rfl, by rfl, ?_, ?_⟩ <;> ((repeat' ((try conv => whnf); (first|exact zU|refine And.intro ?_ ?_|exact fun _ _ _ _ => Eq.refl _|refine cellJ (fun _ _ => ?_)|(refine cellB ?_; (conv => whnf); refine And.intro ?_ ?_)|exact zV|fail))) <;> (try conv => whnf)))
    · (refine ⟨[], rfl, ⟨rfl, rfl, trivial, trivial⟩, ?_, ⟨?_, trivial⟩, fun _ => ⟨?_, trivial⟩⟩ <;> ((repeat' ((try conv => whnf); (first|exact zU|refine And.intro ?_ ?_|exact fun _ _ _ _ => Eq.refl _|refine cellJ (fun _ _ => ?_)|(refine cellB ?_; (conv => whnf); refine And.intro ?_ ?_)|exact zV|fail))) <;> (try conv => whnf)))
      exact (idxOf_none (fun k hk => hall k (by omega))).symm
theorem containsFuncS_fn (g : Gr) (p : CodePlan_T) (xs : List Int) (h : g.2.1.length ≤ 1048576) (hp : sz_CodePlan p ≤ 1048576) (hx : xs.length ≤ 4194304) : Fn Tryz.prog 84 true (.cons (.ri false .i64 xs) (.cons (.fn 85 (capP g p)) .nil)) [] (.b (xs.any (psT g p))) [] := by
  (refine Fn_of tysOk Tryz.func84 rfl rfl (by simp [AV.len, Tryz.f84]) ⟨?_⟩; conv => whnf)
  (repeat' first | ((with_reducible show ∃ _ : Bool, _); first | (refine ⟨_, [], _, [], _, _, indexFuncS_fn g p xs h hp hx, rfl, trivial, zW, Nx.mk ?_⟩; conv => whnf))  | (refine zK (fun hs => ?_) (fun hs => ?_) <;> ((try simp only [Ct.len] at hs); revert hs; intro _; conv => whnf)) | (refine zI (fun _ => ?_) (fun _ => ?_)<;> conv => whnf)|((first|refine zA ?_|refine zB ?_|refine zC ?_|refine zD ?_|refine zE ?_|refine zF ?_|refine zG ?_|fail); conv => whnf)|(refine zJ (fun _ => ?_) ?_<;> conv => whnf)|((first | refine condN Tryz.underlying4 (Nx.mk ?_) | refine zH ?_ | refine Nx.mk ?_); conv => whnf))
  all_goals ((refine ⟨[], rfl, ⟨rfl, rfl, trivial, trivial⟩, ?_, ⟨?_, trivial⟩, fun _ => ⟨?_, trivial⟩⟩ <;> ((repeat' ((try conv => whnf); (first|exact zU|refine And.intro ?_ ?_|exact fun _ _ _ _ => Eq.refl _|refine cellJ (fun _ _ => ?_)|(refine cellB ?_; (conv => whnf); refine And.intro ?_ ?_)|exact zV|fail))) <;> (try conv => whnf))))
  · exact (idxOf_any.1 (by assumption)).symm
  · rename_i h1
    exact (Bool.eq_false_iff.2 (fun h2 => h1 (idxOf_any.2 h2))).symm
theorem iPs_fn (g : Gr) (p : CodePlan_T) (l : List Int) (h : g.2.1.length ≤ 1048576) (hp : sz_CodePlan p ≤ 1048576) (hl : l.length ≤ 1048576) : Fn Tryz.prog 46 true (.cons (GrA g) (.cons (.agg (CodePlan_R p)) (.cons (.ri false .i64 l) .nil))) [] (.b (psB g p l)) [] := by
  have hd : psB g p l = (planB g p && !(l.any (psT g p))) := by with_unfolding_all rfl
  (refine Fn_of tysOk Tryz.func46 rfl rfl (by simp [AV.len, Tryz.f46]) ⟨?_⟩; conv => whnf)
  (repeat' first | ((with_reducible show ∃ _ : Bool, _); first | (refine ⟨_, [], _, [], _, _, iPlan_fn g p h hp, rfl, trivial, zW, Nx.mk ?_⟩; conv => whnf)|(refine ⟨_, [], _, [], _, _, containsFuncS_fn g p l h hp (by omega), rfl, trivial, zW, Nx.mk ?_⟩; conv => whnf))  | (refine zK (fun hs => ?_) (fun hs => ?_) <;> ((try simp only [Ct.len] at hs); revert hs; intro _; conv => whnf)) | (refine zI (fun _ => ?_) (fun _ => ?_)<;> conv => whnf)|((first|refine zA ?_|refine zB ?_|refine zC ?_|refine zD ?_|refine zE ?_|refine zF ?_|refine zG ?_|fail); conv => whnf)|(refine zJ (fun _ => ?_) ?_<;> conv => whnf)|((first | refine condN Tryz.underlying4 (Nx.mk ?_) | refine zH ?_ | refine Nx.mk ?_); conv => whnf))
  (all_goals try first | contradiction | (exfalso; omega))
  all_goals first
    | ((refine ⟨[], rfl, ⟨rfl, rfl, trivial, trivial⟩, ?_, ⟨?_, trivial⟩, fun _ => ⟨?_, trivial⟩⟩ <;> ((repeat' ((try conv => whnf); (first|exact zU|refine And.intro ?_ ?_|exact fun _ _ _ _ => Eq.refl _|refine cellJ (fun _ _ => ?_)|(refine cellB ?_; (conv => whnf); refine And.intro ?_ ?_)|exact zV|fail))) <;> (try conv => whnf))); rw [hd]; simp_all; done)
    | trace_state
end Go.Proofs.YtbepgedckfhifaaGreat
