/-
  What vectors span, of the reference; the rank of a node.
-/
import Derived.Test.YtbepgedckfhifaaGreatFiKg
import Derived.Test.YtbepgedckfhifaaGreatFiJf
namespace Go.Proofs.YtbepgedckfhifaaGreat
set_option linter.unusedVariables false
set_option linter.unusedSimpArgs false
set_option maxRecDepth 100000
set_option maxHeartbeats 4000000
attribute [local irreducible] Fn
def spN (vs : List (List Int)) : Nat → List (List Int)
  | 0 => []
  | i + 1 => LA.insL (spN vs i) (vs.getD i default)
theorem spN_zero {vs : List (List Int)} : spN vs 0 = [] := rfl
theorem spN_succ {vs : List (List Int)} {i : Nat} : spN vs (i + 1) = LA.insL (spN vs i) (vs.getD i default) := rfl
theorem spN_red {w : Nat} {vs : List (List Int)} (hv : ∀ i, i < vs.length → LA.VecOk w (vs.getD i default)) : ∀ i, i ≤ vs.length → LA.RedL w (spN vs i)
  | 0, _ => .nil
  | i + 1, hi => LA.insL_red (spN_red hv i (by omega)) (hv i (by omega))
attribute [local irreducible] spN LA.insL ctB
theorem sNb_fn (w : Nat) (hw : w ≤ 40) : Fn Tryz.prog 163 true (.cons (.I w) .nil) [] (.agg (.cons (.I w) (.cons .nl .nil))) [] := by
  have c1 := (l1In_fn w 0 40).tt (decide_eq_true (by omega))
  (refine Fn_of tysOk Tryz.func163 rfl rfl (by simp [AV.len, Tryz.f163]) ⟨?_⟩; conv => whnf)
  (repeat' first | ((with_reducible show ∃ _ : Bool, _); first | (refine ⟨_, [], _, [], _, _, c1, rfl, trivial, zW, Nx.mk ?_⟩; conv => whnf)) | ((refine VC_draw (sf := []) tysOk (by kernel_rfl) (by kernel_rfl) (Nx.mk ?_); conv => whnf)) | (refine zK (fun hs => ?_) (fun hs => ?_) <;> ((try simp only [Ct.len] at hs); revert hs; intro _; conv => whnf)) | (refine zI (fun _ => ?_) (fun _ => ?_)<;> conv => whnf)|((first|refine zA ?_|refine zB ?_|refine zC ?_|refine zD ?_|refine zE ?_|refine zF ?_|refine zG ?_|fail); conv => whnf)|(refine zJ (fun _ => ?_) ?_<;> conv => whnf)|((first | refine condN Tryz.underlying4 (Nx.mk ?_) | refine zH ?_ | refine Nx.mk ?_); conv => whnf))
  (all_goals try first | contradiction | (exfalso; omega))
  all_goals
    refine ⟨[], rfl, ?_, ?_, ?_, fun _ => ?_⟩
    · ((try conv => whnf); refine ⟨rfl, by rfl, ?_, ?_⟩ <;> ((repeat' ((try conv => whnf); (first|exact zU|refine And.intro ?_ ?_|exact fun _ _ _ _ => Eq.refl _|refine cellJ (fun _ _ => ?_)|(refine cellB ?_; (conv => whnf); refine And.intro ?_ ?_)|exact zV|fail))) <;> (try conv => whnf)))
    all_goals ((repeat' ((try conv => whnf); (first|exact zU|refine And.intro ?_ ?_|exact fun _ _ _ _ => Eq.refl _|refine cellJ (fun _ _ => ?_)|(refine cellB ?_; (conv => whnf); refine And.intro ?_ ?_)|exact zV|fail))) <;> (try conv => whnf))
theorem sSpan_fn {w : Nat} (vs : List (List Int)) (hn : vs.length ≤ 1048576) (hw : w ≤ 40) (hv : ∀ i, i < vs.length → LA.VecOk w (vs.getD i default)) : Fn Tryz.prog 119 true (.cons (.rs false vs.length 1 (cellsA ints_R_i64 vs)) (.cons (.I w) .nil)) [] (BasT w (spN vs vs.length)) [] := by
  have c1 := sNb_fn w hw
  have c2 := (l1In_fn w 0 40).tt (decide_eq_true (by omega))
  have hr := spN_red hv
  (refine Fn_of tysOk Tryz.func119 rfl rfl (by simp [AV.len, Tryz.f119]) ⟨?_⟩; conv => whnf)
  (repeat' first | ((with_reducible show ∃ _ : Bool, _); first | (refine ⟨_, [], _, [], _, _, c1, rfl, trivial, zW, Nx.mk ?_⟩; conv => whnf))  | (refine zK (fun hs => ?_) (fun hs => ?_) <;> ((try simp only [Ct.len] at hs); revert hs; intro _; conv => whnf)) | (refine zI (fun _ => ?_) (fun _ => ?_)<;> conv => whnf)|((first|refine zA ?_|refine zB ?_|refine zC ?_|refine zD ?_|refine zE ?_|refine zF ?_|refine zG ?_|fail); conv => whnf)|(refine zJ (fun _ => ?_) ?_<;> conv => whnf)|((first | refine condN Tryz.underlying4 (Nx.mk ?_) | refine zH ?_ | refine Nx.mk ?_); conv => whnf))
  (all_goals try first | contradiction | (exfalso; omega))
  refine loopI tysOk [nm 7] (fun i : Nat => [(6, .I i)]) (fun i => [(nm 5, some (.box (.cons (.I w) (.cons (.rs true (spN vs i).length 1 (cellsA ints_T_i64 (spN vs i))) .nil))))]) (fun i => i ≤ vs.length) (fun i => vs.length - i) 0 (Nat.zero_le _) ?_ ?_
  · ((try conv => whnf); refine ⟨rfl, by rfl, ?_, ?_⟩ <;> ((repeat' ((try conv => whnf); (first|exact zU|refine And.intro ?_ ?_|exact fun _ _ _ _ => Eq.refl _|refine cellJ (fun _ _ => ?_)|(refine cellB ?_; (conv => whnf); refine And.intro ?_ ?_)|exact zV|fail))) <;> (try conv => whnf)))
    all_goals first | (rw [spN_zero]; done) | (rw [spN_zero]; rfl) | exact .inr rfl | trace_state
  intro i hi
  have hri := hr i hi
  have hz := spN_succ (vs := vs) (i := i)
  by_cases hlt : i < vs.length
  · have c3 := sIv_fn (spN vs i) (vs.getD i default) hri hw (hv i hlt)
    rw [← hz] at c3
    (repeat' first | ((with_reducible show ∃ _ : Bool, _); first | (refine ⟨_, [], _, [], _, _, c2, rfl, trivial, zW, Nx.mk ?_⟩; conv => whnf)|(refine ⟨_, [], _, [], _, _, c3, rfl, trivial, zW, Nx.mk ?_⟩; conv => whnf)) | ((refine VC_draw3 (sf := []) tysOk (by kernel_rfl) (by kernel_rfl) (Nx.mk ?_); conv => whnf)) | (refine zK (fun hs => ?_) (fun hs => ?_) <;> ((try simp only [Ct.len] at hs); revert hs; intro _; conv => whnf)) | (refine zI (fun _ => ?_) (fun _ => ?_)<;> conv => whnf)|((first|refine zA ?_|refine zB ?_|refine zC ?_|refine zD ?_|refine zE ?_|refine zF ?_|refine zG ?_|fail); conv => whnf)|(refine zJ (fun _ => ?_) ?_<;> conv => whnf)|((first | refine condN Tryz.underlying4 (Nx.mk ?_) | refine zH ?_ | refine Nx.mk ?_); conv => whnf))
    (all_goals try first | contradiction | (exfalso; omega))
    all_goals
      refine ⟨i + 1, by omega, by omega, ?_⟩
      ((try conv => whnf); refine ⟨rfl, by rfl, ?_, ?_⟩ <;> ((repeat' ((try conv => whnf); (first|exact zU|refine And.intro ?_ ?_|exact fun _ _ _ _ => Eq.refl _|refine cellJ (fun _ _ => ?_)|(refine cellB ?_; (conv => whnf); refine And.intro ?_ ?_)|exact zV|fail))) <;> (try conv => whnf)))
      all_goals first | exact .inr rfl | trace_state
  · obtain rfl : i = vs.length := by omega
    (repeat' first | ((with_reducible show ∃ _ : Bool, _); first | (refine ⟨_, [], _, [], _, _, c2, rfl, trivial, zW, Nx.mk ?_⟩; conv => whnf))  | (refine zK (fun hs => ?_) (fun hs => ?_) <;> ((try simp only [Ct.len] at hs); revert hs; intro _; conv => whnf)) | (refine zI (fun _ => ?_) (fun _ => ?_)<;> conv => whnf)|((first|refine zA ?_|refine zB ?_|refine zC ?_|refine zD ?_|refine zE ?_|refine zF ?_|refine zG ?_|fail); conv => whnf)|(refine zJ (fun _ => ?_) ?_<;> conv => whnf)|((first | refine condN Tryz.underlying4 (Nx.mk ?_) | refine zH ?_ | refine Nx.mk ?_); conv => whnf))
    (all_goals try first | contradiction | (exfalso; omega))
    all_goals
      refine ⟨[], rfl, ?_, ?_, ?_, fun _ => ?_⟩
      · ((try conv => whnf); refine ⟨rfl, by rfl, ?_, ?_⟩ <;> ((repeat' ((try conv => whnf); (first|exact zU|refine And.intro ?_ ?_|exact fun _ _ _ _ => Eq.refl _|refine cellJ (fun _ _ => ?_)|(refine cellB ?_; (conv => whnf); refine And.intro ?_ ?_)|exact zV|fail))) <;> (try conv => whnf)))
        all_goals first | exact .inr rfl | trace_state
      all_goals ((repeat' ((try conv => whnf); (first|exact zU|refine And.intro ?_ ?_|exact fun _ _ _ _ => Eq.refl _|refine cellJ (fun _ _ => ?_)|(refine cellB ?_; (conv => whnf); refine And.intro ?_ ?_)|exact zV|fail))) <;> (try conv => whnf))
      all_goals first | exact .inr rfl | trace_state
theorem sDim_fn {w : Nat} (R : List (List Int)) (h : LA.RedL w R) (hw : w ≤ 40) : Fn Tryz.prog 118 true (.cons (BasR w R) .nil) [] (.I R.length) [] := by
  have c1 := sIvb_fn R h hw
  (refine Fn_of tysOk Tryz.func118 rfl rfl (by simp [AV.len, Tryz.f118]) ⟨?_⟩; conv => whnf)
  (repeat' first | ((with_reducible show ∃ _ : Bool, _); first | (refine ⟨_, [], _, [], _, _, c1, rfl, trivial, zW, Nx.mk ?_⟩; conv => whnf))  | (refine zK (fun hs => ?_) (fun hs => ?_) <;> ((try simp only [Ct.len] at hs); revert hs; intro _; conv => whnf)) | (refine zI (fun _ => ?_) (fun _ => ?_)<;> conv => whnf)|((first|refine zA ?_|refine zB ?_|refine zC ?_|refine zD ?_|refine zE ?_|refine zF ?_|refine zG ?_|fail); conv => whnf)|(refine zJ (fun _ => ?_) ?_<;> conv => whnf)|((first | refine condN Tryz.underlying4 (Nx.mk ?_) | refine zH ?_ | refine Nx.mk ?_); conv => whnf))
  (all_goals try first | contradiction | (exfalso; omega))
  all_goals (refine ⟨[], rfl, ⟨rfl, rfl, trivial, trivial⟩, ?_, ⟨?_, trivial⟩, fun _ => ⟨?_, trivial⟩⟩ <;> ((repeat' ((try conv => whnf); (first|exact zU|refine And.intro ?_ ?_|exact fun _ _ _ _ => Eq.refl _|refine cellJ (fun _ _ => ?_)|(refine cellB ?_; (conv => whnf); refine And.intro ?_ ?_)|exact zV|fail))) <;> (try conv => whnf)))
end Go.Proofs.YtbepgedckfhifaaGreat
