/-
  What vectors span, of the program; the rank of a node.
-/
import Derived.Test.YtbepgedckfhifaaGreatFiKj
namespace Go.Proofs.YtbepgedckfhifaaGreat
set_option linter.unusedVariables false
set_option linter.unusedSimpArgs false
set_option maxRecDepth 100000
set_option maxHeartbeats 4000000
attribute [local irreducible] Fn
attribute [local irreducible] spN LA.insL ctB insN insP eTo eFrom idL planB LA.redV LA.addS LA.lead lix LA.sclS vecB
theorem iNb_fn (w : Nat) (hw : w ≤ 40) : Fn Tryz.prog 174 true (.cons (.I w) .nil) [] (.agg (.cons (.I w) (.cons .nl .nil))) [] := by
  have c1 := (inRange_fn w 0 40).tt (decide_eq_true (by omega))
  (refine Fn_of tysOk Tryz.func174 rfl rfl (by simp [AV.len, Tryz.f174]) ⟨?_⟩; conv => whnf)
  (repeat' first | ((with_reducible show ∃ _ : Bool, _); first | (refine ⟨_, [], _, [], _, _, c1, rfl, trivial, zW, Nx.mk ?_⟩; conv => whnf)) | ((refine VC_draw (sf := []) tysOk (by kernel_rfl) (by kernel_rfl) (Nx.mk ?_); conv => whnf)) | (refine zK (fun hs => ?_) (fun hs => ?_) <;> ((try simp only [Ct.len] at hs); revert hs; intro _; conv => whnf)) | (refine zI (fun _ => ?_) (fun _ => ?_)<;> conv => whnf)|((first|refine zA ?_|refine zB ?_|refine zC ?_|refine zD ?_|refine zE ?_|refine zF ?_|refine zG ?_|fail); conv => whnf)|(refine zJ (fun _ => ?_) ?_<;> conv => whnf)|((first | refine condN Tryz.underlying4 (Nx.mk ?_) | refine zH ?_ | refine Nx.mk ?_); conv => whnf))
  (all_goals try first | contradiction | (exfalso; omega))
  all_goals
    refine ⟨[], rfl, ?_, ?_, ?_, fun _ => ?_⟩
    · ((try conv => whnf); refine ⟨rfl, by rfl, ?_, ?_⟩ <;> ((repeat' ((try conv => whnf); (first|exact zU|refine And.intro ?_ ?_|exact fun _ _ _ _ => Eq.refl _|refine cellJ (fun _ _ => ?_)|(refine cellB ?_; (conv => whnf); refine And.intro ?_ ?_)|exact zV|fail))) <;> (try conv => whnf)))
    all_goals ((repeat' ((try conv => whnf); (first|exact zU|refine And.intro ?_ ?_|exact fun _ _ _ _ => Eq.refl _|refine cellJ (fun _ _ => ?_)|(refine cellB ?_; (conv => whnf); refine And.intro ?_ ?_)|exact zV|fail))) <;> (try conv => whnf))
theorem iSpan_fn {w : Nat} (vs : List (List Int)) (hn : vs.length ≤ 1048576) (hw : w ≤ 40) (hv : ∀ i, i < vs.length → LA.VecOk w (vs.getD i default)) : Fn Tryz.prog 136 true (.cons (.rs false vs.length 1 (cellsA ints_R_i64 vs)) (.cons (.I w) .nil)) [] (.agg (.cons (.I w) (.cons (.os (rt 16)) .nil))) [(16, .row 22 (.tab (spN vs vs.length).length 1 (cellsA ints_O_i64 (spN vs vs.length))))] := by
  have c1 := iNb_fn w hw
  have c2 := (inRange_fn w 0 40).tt (decide_eq_true (by omega))
  have hr := spN_red hv
  (refine Fn_of tysOk Tryz.func136 rfl rfl (by simp [AV.len, Tryz.f136]) ⟨?_⟩; conv => whnf)
  (repeat' first | ((with_reducible show ∃ _ : Bool, _); first | (refine ⟨_, [], _, [], _, _, c1, rfl, trivial, zW, Nx.mk ?_⟩; conv => whnf)|(refine ⟨_, [], _, [], _, _, c2, rfl, trivial, zW, Nx.mk ?_⟩; conv => whnf))  | (refine zK (fun hs => ?_) (fun hs => ?_) <;> ((try simp only [Ct.len] at hs); revert hs; intro _; conv => whnf)) | (refine zI (fun _ => ?_) (fun _ => ?_)<;> conv => whnf)|((first|refine zA ?_|refine zB ?_|refine zC ?_|refine zD ?_|refine zE ?_|refine zF ?_|refine zG ?_|fail); conv => whnf)|(refine zJ (fun _ => ?_) ?_<;> conv => whnf)|((first | refine condN Tryz.underlying4 (Nx.mk ?_) | refine zH ?_ | refine Nx.mk ?_); conv => whnf))
  (all_goals try first | contradiction | (exfalso; omega))
  refine loopW tysOk [nm 29] (fun i : Nat => [(16, .I i)]) (fun i => [(nm 5, some (.box (.cons (.I w) (.cons (.os (rt (nm 28))) .nil)))), (nm 28, some (.row 22 (.tab (spN vs i).length 1 (cellsA ints_O_i64 (spN vs i)))))]) (fun i => i ≤ vs.length) (fun i => vs.length - i) 0 (Nat.zero_le _) ?_ ?_
  · ((try conv => whnf); refine ⟨rfl, by rfl, ?_, ?_⟩ <;> ((repeat' ((try conv => whnf); (first|exact zU|refine And.intro ?_ ?_|exact fun _ _ _ _ => Eq.refl _|refine cellJ (fun _ _ => ?_)|(refine cellB ?_; (conv => whnf); refine And.intro ?_ ?_)|exact zV|fail))) <;> (try conv => whnf)))
    all_goals first | (rw [spN_zero]; done) | (rw [spN_zero]; rfl) | trace_state
  intro i hi
  dsimp only
  have hri := hr i hi
  have hz := spN_succ (vs := vs) (i := i)
  by_cases hlt : i < vs.length
  · have hvi := hv i hlt
    have hvl := hvi.1
    have c3 := (iVec_fn (vs.getD i default) (by omega)).tt (vecB_of hvi hw)
    by_cases hl : LA.lead (LA.redV (spN vs i) (vs.getD i default) (spN vs i).length) < (LA.redV (spN vs i) (vs.getD i default) (spN vs i).length).length
    · have c4 := iInsY_fn (spN vs i) (vs.getD i default) hri hw hvi hl
      rw [← hz] at c4
      (repeat' first | ((with_reducible show ∃ _ : Bool, _); first | (refine ⟨_, [], _, [], _, _, c3, rfl, trivial, zW, Nx.mk ?_⟩; conv => whnf)|(refine ⟨_, [rt (nm 5), rt (nm 28)], _, _, _, _, c4, rfl, zW, zW, Nx.mk ?_⟩; conv => whnf))  | (refine zK (fun hs => ?_) (fun hs => ?_) <;> ((try simp only [Ct.len] at hs); revert hs; intro _; conv => whnf)) | (refine zI (fun _ => ?_) (fun _ => ?_)<;> conv => whnf)|((first|refine zA ?_|refine zB ?_|refine zC ?_|refine zD ?_|refine zE ?_|refine zF ?_|refine zG ?_|fail); conv => whnf)|(refine zJ (fun _ => ?_) ?_<;> conv => whnf)|((first | refine condN Tryz.underlying4 (Nx.mk ?_) | refine zH ?_ | refine Nx.mk ?_); conv => whnf))
      (all_goals try first | contradiction | (exfalso; omega))
      all_goals
        refine ⟨i + 1, by omega, by omega, [(nm 29, nm 28)], rfl, ?_⟩
        ((try conv => whnf); refine ⟨rfl, by rfl, ?_, ?_⟩ <;> ((repeat' ((try conv => whnf); (first|exact zU|refine And.intro ?_ ?_|exact fun _ _ _ _ => Eq.refl _|refine cellJ (fun _ _ => ?_)|(refine cellB ?_; (conv => whnf); refine And.intro ?_ ?_)|exact zV|fail))) <;> (try conv => whnf)))
        all_goals trace_state
    · have c4 := iInsN_fn (spN vs i) (vs.getD i default) hri hw hvi hl
      rw [insL_no hl] at hz
      (repeat' first | ((with_reducible show ∃ _ : Bool, _); first | (refine ⟨_, [], _, [], _, _, c3, rfl, trivial, zW, Nx.mk ?_⟩; conv => whnf)|(refine ⟨_, [rt (nm 5), rt (nm 28)], _, _, _, _, c4, rfl, zW, zW, Nx.mk ?_⟩; conv => whnf))  | (refine zK (fun hs => ?_) (fun hs => ?_) <;> ((try simp only [Ct.len] at hs); revert hs; intro _; conv => whnf)) | (refine zI (fun _ => ?_) (fun _ => ?_)<;> conv => whnf)|((first|refine zA ?_|refine zB ?_|refine zC ?_|refine zD ?_|refine zE ?_|refine zF ?_|refine zG ?_|fail); conv => whnf)|(refine zJ (fun _ => ?_) ?_<;> conv => whnf)|((first | refine condN Tryz.underlying4 (Nx.mk ?_) | refine zH ?_ | refine Nx.mk ?_); conv => whnf))
      (all_goals try first | contradiction | (exfalso; omega))
      all_goals
        refine ⟨i + 1, by omega, by omega, [], rfl, ?_⟩
        rw [hz]
        ((try conv => whnf); refine ⟨rfl, by rfl, ?_, ?_⟩ <;> ((repeat' ((try conv => whnf); (first|exact zU|refine And.intro ?_ ?_|exact fun _ _ _ _ => Eq.refl _|refine cellJ (fun _ _ => ?_)|(refine cellB ?_; (conv => whnf); refine And.intro ?_ ?_)|exact zV|fail))) <;> (try conv => whnf)))
        all_goals trace_state
  · obtain rfl : i = vs.length := by omega
    (repeat' first  | (refine zK (fun hs => ?_) (fun hs => ?_) <;> ((try simp only [Ct.len] at hs); revert hs; intro _; conv => whnf)) | (refine zI (fun _ => ?_) (fun _ => ?_)<;> conv => whnf)|((first|refine zA ?_|refine zB ?_|refine zC ?_|refine zD ?_|refine zE ?_|refine zF ?_|refine zG ?_|fail); conv => whnf)|(refine zJ (fun _ => ?_) ?_<;> conv => whnf)|((first | refine condN Tryz.underlying4 (Nx.mk ?_) | refine zH ?_ | refine Nx.mk ?_); conv => whnf))
    (all_goals try first | contradiction | (exfalso; omega))
    all_goals
      refine ⟨[(16, nm 28)], rfl, ?_, ?_, ?_, fun _ => ?_⟩
      · ((try conv => whnf); refine ⟨rfl, by rfl, ?_, ?_⟩ <;> ((repeat' ((try conv => whnf); (first|exact zU|refine And.intro ?_ ?_|exact fun _ _ _ _ => Eq.refl _|refine cellJ (fun _ _ => ?_)|(refine cellB ?_; (conv => whnf); refine And.intro ?_ ?_)|exact zV|fail))) <;> (try conv => whnf)))
        all_goals trace_state
      all_goals ((repeat' ((try conv => whnf); (first|exact zU|refine And.intro ?_ ?_|exact fun _ _ _ _ => Eq.refl _|refine cellJ (fun _ _ => ?_)|(refine cellB ?_; (conv => whnf); refine And.intro ?_ ?_)|exact zV|fail))) <;> (try conv => whnf))
theorem iVToR_fn (g : Gr) (E : EdgePlanS_T) (a : Int) (d : Int) (hg : g.2.1.length ≤ 20) (hl : E.length = g.2.1.length) (hE : ∀ e, (vE E e).length ≤ 8) : Fn Tryz.prog 78 false (.cons (.agg (.cons (.I d) (.cons (.rs false E.length 1 (cellsA EdgePlan_R E)) .nil))) (.cons (GrA g) (.cons (.I a) .nil))) [] (.os (rt 16))
    [(16, .row 22 (.tab (insN E (eTo g a) (eTo g a).length).length 1 (cellsA ints_R_i64 (insN E (eTo g a) (eTo g a).length))))] := by
  have ht := iTo_fn g a (by omega)
  have hle := eTo_leT (g := g) (a := a)
  have hok := fun k (hk : k < (eTo g a).length) => eTo_okT hk
  have hb : ∀ j, (insN E (eTo g a) j).length ≤ 8 * j := fun j => by
    induction j with
    | zero => exact Nat.le_of_eq (by rw [insN_zero]; rfl)
    | succ j ih =>
      rw [insN_succ]
      have := hE ((eTo g a).getD j 0).toNat
      simp only [List.length_append]
      omega
  (refine Fn_of tysOk Tryz.func78 rfl rfl (by simp [AV.len, Tryz.f78]) ⟨?_⟩; conv => whnf)
  (repeat' first | ((with_reducible show ∃ _ : Bool, _); first | (refine ⟨_, [], _, [], _, _, ht, rfl, trivial, zW, Nx.mk ?_⟩; conv => whnf))  | (refine zK (fun hs => ?_) (fun hs => ?_) <;> ((try simp only [Ct.len] at hs); revert hs; intro _; conv => whnf)) | (refine zI (fun _ => ?_) (fun _ => ?_)<;> conv => whnf)|((first|refine zA ?_|refine zB ?_|refine zC ?_|refine zD ?_|refine zE ?_|refine zF ?_|refine zG ?_|fail); conv => whnf)|(refine zJ (fun _ => ?_) ?_<;> conv => whnf)|((first | refine condN Tryz.underlying4 (Nx.mk ?_) | refine zH ?_ | refine Nx.mk ?_); conv => whnf))
  (all_goals try first | contradiction | (exfalso; omega))
  generalize eTo g a = L at *
  refine loopI tysOk [nm 25] (fun j : Nat => [(7, .os (rt (nm 25))), (14, .I j)]) (fun j => [(nm 25, some (.row 22 (.tab (insN E L j).length 1 (cellsA ints_R_i64 (insN E L j)))))]) (fun j => j ≤ L.length) (fun j => L.length - j) 0 (Nat.zero_le _) ?_ ?_
  · ((try conv => whnf); refine ⟨rfl, by rfl, ?_, ?_⟩ <;> ((repeat' ((try conv => whnf); (first|exact zU|refine And.intro ?_ ?_|exact fun _ _ _ _ => Eq.refl _|refine cellJ (fun _ _ => ?_)|(refine cellB ?_; (conv => whnf); refine And.intro ?_ ?_)|exact zV|fail))) <;> (try conv => whnf)))
    all_goals first | omega | (rw [insN_zero]; rfl) | skip
  intro j hj
  have hz := insN_succ (E := E) (L := L) (j := j)
  have hbj := hb j
  by_cases hlt : j < L.length
  · obtain ⟨k0, k1⟩ := hok j hlt
    have hv8 := hE (L.getD j 0).toNat
    (repeat' first | (refine condN (show (insN E L j).length + (vE E (L.getD j 0).toNat).length ≤ 1073741824 by omega) (Nx.mk ?_); conv => whnf)|(refine zK (fun hs => ?_) (fun hs => ?_) <;> ((try simp only [Ct.len] at hs); revert hs; intro _; conv => whnf)) | (refine zI (fun _ => ?_) (fun _ => ?_)<;> conv => whnf)|((first|refine zA ?_|refine zB ?_|refine zC ?_|refine zD ?_|refine zE ?_|refine zF ?_|refine zG ?_|fail); conv => whnf)|(refine zJ (fun _ => ?_) ?_<;> conv => whnf)|((first | refine condN Tryz.underlying4 (Nx.mk ?_) | refine zH ?_ | refine Nx.mk ?_); conv => whnf))
    (all_goals try first | contradiction | (exfalso; omega))
    refine ⟨j + 1, by omega, by omega, ?_⟩
    ((try conv => whnf); refine ⟨rfl, by rfl, ?_, ?_⟩ <;> ((repeat' ((try conv => whnf); (first|exact zU|refine And.intro ?_ ?_|exact fun _ _ _ _ => Eq.refl _|refine cellJ (fun _ _ => ?_)|(refine cellB ?_; (conv => whnf); refine And.intro ?_ ?_)|exact zV|fail))) <;> (try conv => whnf)))
    · rw [hz, List.length_append]
    all_goals
      rename_i k hk
      have hk : k < (insN E L j).length + (vE E (L.getD j 0).toNat).length := hk
      by_cases e : k < (insN E L j).length
      · simp only [blt_of e, cond_true, Ct.cell, cellsA, hz, getD_appL e]
        ((repeat' ((try conv => whnf); (first|exact zU|refine And.intro ?_ ?_|exact fun _ _ _ _ => Eq.refl _|refine cellJ (fun _ _ => ?_)|(refine cellB ?_; (conv => whnf); refine And.intro ?_ ?_)|exact zV|fail))) <;> (try conv => whnf))
        all_goals first | exact .inl rfl | trace_state
      · have e2 : (insN E L j).length ≤ k := by omega
        simp only [blt_noA e2, cond_false, Ct.cell, cellsA, hz, getD_appR e2]
        ((repeat' ((try conv => whnf); (first|exact zU|refine And.intro ?_ ?_|exact fun _ _ _ _ => Eq.refl _|refine cellJ (fun _ _ => ?_)|(refine cellB ?_; (conv => whnf); refine And.intro ?_ ?_)|exact zV|fail))) <;> (try conv => whnf))
        all_goals first | exact .inl rfl | trace_state
  · obtain rfl : j = L.length := by omega
    (repeat' first | (refine zK (fun hs => ?_) (fun hs => ?_) <;> ((try simp only [Ct.len] at hs); revert hs; intro _; conv => whnf)) | (refine zI (fun _ => ?_) (fun _ => ?_)<;> conv => whnf)|((first|refine zA ?_|refine zB ?_|refine zC ?_|refine zD ?_|refine zE ?_|refine zF ?_|refine zG ?_|fail); conv => whnf)|(refine zJ (fun _ => ?_) ?_<;> conv => whnf)|((first | refine condN Tryz.underlying4 (Nx.mk ?_) | refine zH ?_ | refine Nx.mk ?_); conv => whnf))
    (all_goals try first | contradiction | (exfalso; omega))
    all_goals
      refine ⟨[(16, nm 25)], rfl, ?_, ?_, ?_, fun h => by cases h⟩
      · ((try conv => whnf); refine ⟨rfl, by rfl, ?_, ?_⟩ <;> ((repeat' ((try conv => whnf); (first|exact zU|refine And.intro ?_ ?_|exact fun _ _ _ _ => Eq.refl _|refine cellJ (fun _ _ => ?_)|(refine cellB ?_; (conv => whnf); refine And.intro ?_ ?_)|exact zV|fail))) <;> (try conv => whnf)))
        all_goals first | exact .inl rfl | trace_state
      all_goals ((repeat' ((try conv => whnf); (first|exact zU|refine And.intro ?_ ?_|exact fun _ _ _ _ => Eq.refl _|refine cellJ (fun _ _ => ?_)|(refine cellB ?_; (conv => whnf); refine And.intro ?_ ?_)|exact zV|fail))) <;> (try conv => whnf))
      all_goals first | exact .inl rfl | trace_state
theorem eTo_neg {g : Gr} (hv : ValidG g) {a : Int} (h : a < 0) : (eTo g a).length = 0 := by
  rcases Nat.eq_zero_or_pos (eTo g a).length with h0 | h0
  · exact h0
  · have h1 := to_at h0
    obtain ⟨k0, k1⟩ := eTo_okT h0
    obtain ⟨_, _, h2, h3, _⟩ := hv.edge ((eTo g a).getD 0 0).toNat (by omega)
    omega
theorem iNr_fn (g : Gr) (p : CodePlan_T) (a : Int) (h : g.2.1.length ≤ 1048576) (hp : sz_CodePlan p ≤ 1048576) : Fn Tryz.prog 86 true (.cons (GrA g) (.cons (.agg (CodePlan_R p)) (.cons (.I a) .nil))) [] (.I (nrV g p a)) [] := by
  by_cases hb : planB g p = true
  · have hnr : nrV g p a = (spN (insL g p.2.1 a) (insL g p.2.1 a).length).length := by
      by_cases h0 : 0 ≤ a
      · exact nrV_yes hb h0
      · rw [nrV_no (fun hh => h0 hh.2)]
        have h1 := eTo_neg (planB_iff.1 hb).v (show a < 0 by omega)
        have h2 : insL g p.2.1 a = [] := by
          show insN p.2.1 (eTo g a) (eTo g a).length = []
          rw [h1, insN_zero]
        rw [h2]
        show 0 = (spN [] 0).length
        rw [spN_zero]; rfl
    rw [hnr]
    obtain ⟨d, e1, e2, hE⟩ := plan_PlE (planB_iff.1 hb)
    obtain ⟨pd, pE, ⟨⟩⟩ := p
    obtain rfl : pd = (d : Int) := e1
    have hP := planB_iff.1 hb
    have c1 := (iPlan_fn g _ h hp).tt hb
    dsimp only at hE ⊢
    have c2 := iVToR_fn g pE a d hP.v.len hP.len hE.len
    have hv := (insN_ok hE (L := eTo g a) (j := (eTo g a).length)).1
    have hb8 := (insN_ok hE (L := eTo g a) (j := (eTo g a).length)).2
    have hle := eTo_leT (g := g) (a := a)
    have hm1 := hP.v.len
    unfold insL
    generalize insN pE (eTo g a) (eTo g a).length = vs at *
    have c3 := iSpan_fn vs (by omega) (show d ≤ 40 by omega) hv
    (refine Fn_of tysOk Tryz.func86 rfl rfl (by simp [AV.len, Tryz.f86]) ⟨?_⟩; conv => whnf)
    (repeat' first | ((with_reducible show ∃ _ : Bool, _); first | (refine ⟨_, [], _, [], _, _, c1, rfl, trivial, zW, Nx.mk ?_⟩; conv => whnf)|(refine ⟨_, [], _, [], _, _, c2, rfl, trivial, zW, Nx.mk ?_⟩; conv => whnf)|(refine ⟨_, [], _, [], _, _, c3, rfl, trivial, zW, Nx.mk ?_⟩; conv => whnf)) | ((refine VC_draw (sf := []) tysOk (by kernel_rfl) (by kernel_rfl) (Nx.mk ?_); conv => whnf)) | (refine zK (fun hs => ?_) (fun hs => ?_) <;> ((try simp only [Ct.len] at hs); revert hs; intro _; conv => whnf)) | (refine zI (fun _ => ?_) (fun _ => ?_)<;> conv => whnf)|((first|refine zA ?_|refine zB ?_|refine zC ?_|refine zD ?_|refine zE ?_|refine zF ?_|refine zG ?_|fail); conv => whnf)|(refine zJ (fun _ => ?_) ?_<;> conv => whnf)|((first | refine condN Tryz.underlying4 (Nx.mk ?_) | refine zH ?_ | refine Nx.mk ?_); conv => whnf))
    (all_goals try first | contradiction | (exfalso; omega))
    all_goals (refine ⟨[], rfl, ⟨rfl, rfl, trivial, trivial⟩, ?_, ⟨?_, trivial⟩, fun _ => ⟨?_, trivial⟩⟩ <;> ((repeat' ((try conv => whnf); (first|exact zU|refine And.intro ?_ ?_|exact fun _ _ _ _ => Eq.refl _|refine cellJ (fun _ _ => ?_)|(refine cellB ?_; (conv => whnf); refine And.intro ?_ ?_)|exact zV|fail))) <;> (try conv => whnf)))
  · have c1 := (iPlan_fn g p h hp).ff (by cases hq : planB g p with | false => rfl | true => exact absurd hq hb)
    rw [nrV_no (fun hh => hb hh.1)]
    (refine Fn_of tysOk Tryz.func86 rfl rfl (by simp [AV.len, Tryz.f86]) ⟨?_⟩; conv => whnf)
    (repeat' first | ((with_reducible show ∃ _ : Bool, _); first | (refine ⟨_, [], _, [], _, _, c1, rfl, trivial, zW, Nx.mk ?_⟩; conv => whnf))  | (refine zK (fun hs => ?_) (fun hs => ?_) <;> ((try simp only [Ct.len] at hs); revert hs; intro _; conv => whnf)) | (refine zI (fun _ => ?_) (fun _ => ?_)<;> conv => whnf)|((first|refine zA ?_|refine zB ?_|refine zC ?_|refine zD ?_|refine zE ?_|refine zF ?_|refine zG ?_|fail); conv => whnf)|(refine zJ (fun _ => ?_) ?_<;> conv => whnf)|((first | refine condN Tryz.underlying4 (Nx.mk ?_) | refine zH ?_ | refine Nx.mk ?_); conv => whnf))
    all_goals first
      | ((refine ⟨[], rfl, ⟨rfl, rfl, trivial, trivial⟩, ?_, ⟨?_, trivial⟩, fun _ => ⟨?_, trivial⟩⟩ <;> ((repeat' ((try conv => whnf); (first|exact zU|refine And.intro ?_ ?_|exact fun _ _ _ _ => Eq.refl _|refine cellJ (fun _ _ => ?_)|(refine cellB ?_; (conv => whnf); refine And.intro ?_ ?_)|exact zV|fail))) <;> (try conv => whnf))); done)
      | trace_state
end Go.Proofs.YtbepgedckfhifaaGreat
