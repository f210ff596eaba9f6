/-
  The rank of a node, of the reference; vectors reduced and bases, of the program.
-/
import Derived.Test.YtbepgedckfhifaaGreatFiKh
import Derived.Test.YtbepgedckfhifaaGreatFiKc
namespace Go.Proofs.YtbepgedckfhifaaGreat
set_option linter.unusedVariables false
set_option linter.unusedSimpArgs false
set_option maxRecDepth 100000
set_option maxHeartbeats 4000000
attribute [local irreducible] Fn
attribute [local irreducible] spN LA.insL ctB insN insP eTo eFrom idL planB LA.redV LA.addS LA.lead lix LA.sclS
theorem plan_PlE {g : Gr} {p : CodePlan_T} (h : PlanOk g p) : ∃ d : Nat, p.1 = d ∧ d ≤ 8 ∧ PlE d p.2.1 := by
  refine ⟨p.1.toNat, by have := h.d0; omega, by have := h.d1; omega, fun e k hk => ?_, fun e => ?_⟩
  · by_cases he : e < p.2.1.length
    · obtain ⟨h1, h2⟩ := (h.edge e he).vec k hk
      have h3 := vec_of h1
      have h2 : (((vE p.2.1 e).getD k default).length : Int) = p.1 := h2
      have h4 : ((vE p.2.1 e).getD k default).length = p.1.toNat := by omega
      rwa [h4] at h3
    · have : (vE p.2.1 e) = [] := by unfold vE; rw [List.getD_eq_getElem?_getD, List.getElem?_eq_none (by omega)]; rfl
      rw [this] at hk
      exact absurd hk (Nat.not_lt_zero _)
  · by_cases he : e < p.2.1.length
    · have h1 := (h.edge e he).cap
      obtain ⟨_, _, _, _, _, h2, h3, _⟩ := h.v.edge e (by have := h.len; omega)
      have h1 : ((vE p.2.1 e).length : Int) = _ := h1
      omega
    · have : (vE p.2.1 e) = [] := by unfold vE; rw [List.getD_eq_getElem?_getD, List.getElem?_eq_none (by omega)]; rfl
      rw [this]; exact Nat.zero_le _
noncomputable def nrV (g : Gr) (p : CodePlan_T) (a : Int) : Nat := if planB g p = true ∧ 0 ≤ a then (spN (insL g p.2.1 a) (insL g p.2.1 a).length).length else 0
theorem nrV_yes {g : Gr} {p : CodePlan_T} {a : Int} (h : planB g p = true) (h2 : 0 ≤ a) : nrV g p a = (spN (insL g p.2.1 a) (insL g p.2.1 a).length).length := if_pos ⟨h, h2⟩
theorem nrV_no {g : Gr} {p : CodePlan_T} {a : Int} (h : ¬ (planB g p = true ∧ 0 ≤ a)) : nrV g p a = 0 := if_neg h
theorem sNr_fn (g : Gr) (p : CodePlan_T) (a : Int) (h : g.2.1.length ≤ 1048576) (hp : sz_CodePlan p ≤ 1048576) : Fn Tryz.prog 71 true (.cons (GrA g) (.cons (.agg (CodePlan_R p)) (.cons (.I a) .nil))) [] (.I (nrV g p a)) [] := by
  by_cases hb : planB g p = true ∧ 0 ≤ a
  · rw [nrV_yes hb.1 hb.2]
    obtain ⟨d, e1, e2, hE⟩ := plan_PlE (planB_iff.1 hb.1)
    obtain ⟨pd, pE, ⟨⟩⟩ := p
    obtain rfl : pd = (d : Int) := e1
    have hP := planB_iff.1 hb.1
    have c1 := (sPlan_fn g _ h hp).tt hb.1
    dsimp only at hE ⊢
    have c2 := sIns_fn g pE (-1) a d hP.v.len hP.len hE (by omega)
    rw [inL_no (by omega)] at c2
    have c2 := (c2.fzK (fun N h => h.symm)).fzR
    have hv := inL_ok (g := g) (s := -1) (a := a) hE
    rw [inL_no (by omega)] at hv
    have hb8 := (insN_ok hE (L := eTo g a) (j := (eTo g a).length)).2
    have hle := eTo_leT (g := g) (a := a)
    have hm1 := hP.v.len
    have hn : (insL g pE a).length ≤ 1048576 := by show (insN pE (eTo g a) (eTo g a).length).length ≤ _; omega
    generalize insL g pE a = vs at *
    have c3 := sSpan_fn vs hn (show d ≤ 40 by omega) hv
    have c4 := sDim_fn (spN vs vs.length) (spN_red hv vs.length (Nat.le_refl _)) (show d ≤ 40 by omega)
    (refine Fn_of tysOk Tryz.func71 rfl rfl (by simp [AV.len, Tryz.f71]) ⟨?_⟩; conv => whnf)
    (repeat' first | ((with_reducible show ∃ _ : Bool, _); first | (refine ⟨_, [], _, [], _, _, c1, rfl, trivial, zW, Nx.mk ?_⟩; conv => whnf)|(refine ⟨_, [], _, [], _, _, c2, rfl, trivial, zW, Nx.mk ?_⟩; conv => whnf)|(refine ⟨_, [], _, [], _, _, c3, rfl, trivial, zW, Nx.mk ?_⟩; conv => whnf)|(refine ⟨_, [], _, [], _, _, c4, rfl, trivial, zW, Nx.mk ?_⟩; conv => whnf)) | ((refine VC_draw (sf := []) tysOk (by kernel_rfl) (by kernel_rfl) (Nx.mk ?_); conv => whnf)) | (refine zK (fun hs => ?_) (fun hs => ?_) <;> ((try simp only [Ct.len] at hs); revert hs; intro _; conv => whnf)) | (refine zI (fun _ => ?_) (fun _ => ?_)<;> conv => whnf)|((first|refine zA ?_|refine zB ?_|refine zC ?_|refine zD ?_|refine zE ?_|refine zF ?_|refine zG ?_|fail); conv => whnf)|(refine zJ (fun _ => ?_) ?_<;> conv => whnf)|((first | refine condN Tryz.underlying4 (Nx.mk ?_) | refine zH ?_ | refine Nx.mk ?_); conv => whnf))
    (all_goals try first | contradiction | (exfalso; omega))
    all_goals (refine ⟨[], rfl, ⟨rfl, rfl, trivial, trivial⟩, ?_, ⟨?_, trivial⟩, fun _ => ⟨?_, trivial⟩⟩ <;> ((repeat' ((try conv => whnf); (first|exact zU|refine And.intro ?_ ?_|exact fun _ _ _ _ => Eq.refl _|refine cellJ (fun _ _ => ?_)|(refine cellB ?_; (conv => whnf); refine And.intro ?_ ?_)|exact zV|fail))) <;> (try conv => whnf)))
  · rw [nrV_no hb]
    (refine Fn_of tysOk Tryz.func71 rfl rfl (by simp [AV.len, Tryz.f71]) ⟨?_⟩; conv => whnf)
    (repeat' first | ((with_reducible show ∃ _ : Bool, _); first | (refine ⟨_, [], _, [], _, _, sPlan_fn g p h hp, rfl, trivial, zW, Nx.mk ?_⟩; conv => whnf))  | (refine zK (fun hs => ?_) (fun hs => ?_) <;> ((try simp only [Ct.len] at hs); revert hs; intro _; conv => whnf)) | (refine zI (fun _ => ?_) (fun _ => ?_)<;> conv => whnf)|((first|refine zA ?_|refine zB ?_|refine zC ?_|refine zD ?_|refine zE ?_|refine zF ?_|refine zG ?_|fail); conv => whnf)|(refine zJ (fun _ => ?_) ?_<;> conv => whnf)|((first | refine condN Tryz.underlying4 (Nx.mk ?_) | refine zH ?_ | refine Nx.mk ?_); conv => whnf))
    all_goals first
      | ((refine ⟨[], rfl, ⟨rfl, rfl, trivial, trivial⟩, ?_, ⟨?_, trivial⟩, fun _ => ⟨?_, trivial⟩⟩ <;> ((repeat' ((try conv => whnf); (first|exact zU|refine And.intro ?_ ?_|exact fun _ _ _ _ => Eq.refl _|refine cellJ (fun _ _ => ?_)|(refine cellB ?_; (conv => whnf); refine And.intro ?_ ?_)|exact zV|fail))) <;> (try conv => whnf))); done)
      | (exfalso; exact hb ⟨by assumption, by omega⟩)
theorem iRe_fn {w : Nat} (R : List (List Int)) (v : List Int) (h : LA.RedL w R) (hw : w ≤ 40) (hv : LA.VecOk w v) : Fn Tryz.prog 192 true (.cons (BasR w R) (.cons (.ri false .i64 v) .nil)) [] (.os (rt 16)) [(16, .row 3 (.ints .i64 (LA.redV R v R.length)))] := by
  have hl := red_len h
  have hvl := hv.1
  have c1 := clone_fn v (by omega)
  (refine Fn_of tysOk Tryz.func192 rfl rfl (by simp [AV.len, Tryz.f192]) ⟨?_⟩; conv => whnf)
  (repeat' first | ((with_reducible show ∃ _ : Bool, _); first | (refine ⟨_, [], _, [], _, _, c1, rfl, trivial, zW, Nx.mk ?_⟩; conv => whnf))  | (refine zK (fun hs => ?_) (fun hs => ?_) <;> ((try simp only [Ct.len] at hs); revert hs; intro _; conv => whnf)) | (refine zI (fun _ => ?_) (fun _ => ?_)<;> conv => whnf)|((first|refine zA ?_|refine zB ?_|refine zC ?_|refine zD ?_|refine zE ?_|refine zF ?_|refine zG ?_|fail); conv => whnf)|(refine zJ (fun _ => ?_) ?_<;> conv => whnf)|((first | refine condN Tryz.underlying4 (Nx.mk ?_) | refine zH ?_ | refine Nx.mk ?_); conv => whnf))
  (all_goals try first | contradiction | (exfalso; omega))
  refine loopI tysOk [] (fun i : Nat => [(14, .I i)]) (fun i => [(nm 10, some (.row 3 (.ints .i64 (LA.redV R v i))))]) (fun i => i ≤ R.length) (fun i => R.length - i) 0 (Nat.zero_le _) ?_ ?_
  · ((try conv => whnf); refine ⟨rfl, by rfl, ?_, ?_⟩ <;> ((repeat' ((try conv => whnf); (first|exact zU|refine And.intro ?_ ?_|exact fun _ _ _ _ => Eq.refl _|refine cellJ (fun _ _ => ?_)|(refine cellB ?_; (conv => whnf); refine And.intro ?_ ?_)|exact zV|fail))) <;> (try conv => whnf)))
    all_goals first | (exact redV_zero.symm) | (rw [redV_zero]; rfl) | trace_state
  intro i hi
  by_cases hlt : i < R.length
  · have hok := LA.redV_ok (R := R) hv i
    obtain ⟨x1, x2⟩ := red_lix h hlt
    have hk := hok.at_ x2
    have hro := red_ok h i hlt
    have hrl := hro.1
    have hol := hok.1
    have hz := redV_succ (R := R) (v := v) (i := i)
    have c2 := iLix_fn (R.getD i default) (by omega)
    rw [x1] at c2
    by_cases h0 : (LA.redV R v i).getD (LA.lead (R.getD i default)) 0 = 0
    · rw [h0, LA.addS_zero hok (by omega)] at hz
      (repeat' first | ((with_reducible show ∃ _ : Bool, _); first | (refine ⟨_, [], _, [], _, _, c2, rfl, trivial, zW, Nx.mk ?_⟩; conv => whnf)) | (refine idxInt (LA.lead (R.getD i default)) rfl (show LA.lead (R.getD i default) < (LA.redV R v i).length by omega) (Nx.mk ?_); conv => whnf)|(refine zK (fun hs => ?_) (fun hs => ?_) <;> ((try simp only [Ct.len] at hs); revert hs; intro _; conv => whnf)) | (refine zI (fun _ => ?_) (fun _ => ?_)<;> conv => whnf)|((first|refine zA ?_|refine zB ?_|refine zC ?_|refine zD ?_|refine zE ?_|refine zF ?_|refine zG ?_|fail); conv => whnf)|(refine zJ (fun _ => ?_) ?_<;> conv => whnf)|((first | refine condN Tryz.underlying4 (Nx.mk ?_) | refine zH ?_ | refine Nx.mk ?_); conv => whnf))
      (all_goals try first | contradiction | (exfalso; omega))
      all_goals
        refine ⟨i + 1, by omega, by omega, ?_⟩
        ((try conv => whnf); refine ⟨rfl, by rfl, ?_, ?_⟩ <;> ((repeat' ((try conv => whnf); (first|exact zU|refine And.intro ?_ ?_|exact fun _ _ _ _ => Eq.refl _|refine cellJ (fun _ _ => ?_)|(refine cellB ?_; (conv => whnf); refine And.intro ?_ ?_)|exact zV|fail))) <;> (try conv => whnf)))
        all_goals first | exact hz.symm | trace_state
    · have c4 := iAddS_fn (LA.redV R v i) (R.getD i default) (1019 - (LA.redV R v i).getD (LA.lead (R.getD i default)) 0) hok hro hw (by omega)
      rw [Int.emod_eq_of_lt (by omega) (by omega)] at hz
      rw [← hz] at c4
      (repeat' first | ((with_reducible show ∃ _ : Bool, _); first | (refine ⟨_, [], _, [], _, _, c2, rfl, trivial, zW, Nx.mk ?_⟩; conv => whnf)|(refine ⟨_, [rt (nm 10)], _, _, _, _, c4, rfl, zW, zW, Nx.mk ?_⟩; conv => whnf)) | (refine idxInt (LA.lead (R.getD i default)) rfl (show LA.lead (R.getD i default) < (LA.redV R v i).length by omega) (Nx.mk ?_); conv => whnf)|(refine zK (fun hs => ?_) (fun hs => ?_) <;> ((try simp only [Ct.len] at hs); revert hs; intro _; conv => whnf)) | (refine zI (fun _ => ?_) (fun _ => ?_)<;> conv => whnf)|((first|refine zA ?_|refine zB ?_|refine zC ?_|refine zD ?_|refine zE ?_|refine zF ?_|refine zG ?_|fail); conv => whnf)|(refine zJ (fun _ => ?_) ?_<;> conv => whnf)|((first | refine condN Tryz.underlying4 (Nx.mk ?_) | refine zH ?_ | refine Nx.mk ?_); conv => whnf))
      (all_goals try first | contradiction | (exfalso; omega))
      all_goals
        refine ⟨i + 1, by omega, by omega, ?_⟩
        ((try conv => whnf); refine ⟨rfl, by rfl, ?_, ?_⟩ <;> ((repeat' ((try conv => whnf); (first|exact zU|refine And.intro ?_ ?_|exact fun _ _ _ _ => Eq.refl _|refine cellJ (fun _ _ => ?_)|(refine cellB ?_; (conv => whnf); refine And.intro ?_ ?_)|exact zV|fail))) <;> (try conv => whnf)))
        all_goals trace_state
  · obtain rfl : i = R.length := by omega
    (repeat' first | (refine zK (fun hs => ?_) (fun hs => ?_) <;> ((try simp only [Ct.len] at hs); revert hs; intro _; conv => whnf)) | (refine zI (fun _ => ?_) (fun _ => ?_)<;> conv => whnf)|((first|refine zA ?_|refine zB ?_|refine zC ?_|refine zD ?_|refine zE ?_|refine zF ?_|refine zG ?_|fail); conv => whnf)|(refine zJ (fun _ => ?_) ?_<;> conv => whnf)|((first | refine condN Tryz.underlying4 (Nx.mk ?_) | refine zH ?_ | refine Nx.mk ?_); conv => whnf))
    (all_goals try first | contradiction | (exfalso; omega))
    all_goals
      refine ⟨[(16, nm 10)], rfl, ?_, ?_, ?_, fun _ => ?_⟩
      · ((try conv => whnf); refine ⟨rfl, by rfl, ?_, ?_⟩ <;> ((repeat' ((try conv => whnf); (first|exact zU|refine And.intro ?_ ?_|exact fun _ _ _ _ => Eq.refl _|refine cellJ (fun _ _ => ?_)|(refine cellB ?_; (conv => whnf); refine And.intro ?_ ?_)|exact zV|fail))) <;> (try conv => whnf)))
      all_goals ((repeat' ((try conv => whnf); (first|exact zU|refine And.intro ?_ ?_|exact fun _ _ _ _ => Eq.refl _|refine cellJ (fun _ _ => ?_)|(refine cellB ?_; (conv => whnf); refine And.intro ?_ ?_)|exact zV|fail))) <;> (try conv => whnf))
end Go.Proofs.YtbepgedckfhifaaGreat
