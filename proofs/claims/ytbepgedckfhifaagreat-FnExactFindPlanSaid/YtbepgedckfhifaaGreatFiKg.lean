/-
  Bases, of the reference.
-/
import Derived.Test.YtbepgedckfhifaaGreatFiKf
import Derived.Test.YtbepgedckfhifaaGreatFiDg
namespace Go.Proofs.YtbepgedckfhifaaGreat
set_option linter.unusedVariables false
set_option linter.unusedSimpArgs false
set_option maxRecDepth 100000
set_option maxHeartbeats 4000000
attribute [local irreducible] Fn
abbrev BasR (w : Nat) (R : List (List Int)) : AV := .agg (.cons (.I w) (.cons (.rs false R.length 1 (cellsA ints_R_i64 R)) .nil))
abbrev BasT (w : Nat) (R : List (List Int)) : AV := .agg (.cons (.I w) (.cons (.rs true R.length 1 (cellsA ints_T_i64 R)) .nil))
theorem red_len {w : Nat} {R : List (List Int)} (h : LA.RedL w R) : R.length ≤ w := by
  have h1 : ∀ i, i < R.length → i ≤ LA.lds R i := fun i => by
    induction i with
    | zero => exact fun _ => Nat.zero_le _
    | succ i ih => intro hi; have := ih (by omega); have := h.red.inc i (i + 1) (by omega) hi; omega
  rcases Nat.eq_zero_or_pos R.length with h0 | h0
  · omega
  · have := h1 (R.length - 1) (by omega)
    have := h.red.lt (R.length - 1) (by omega)
    omega
theorem red_lix {w : Nat} {R : List (List Int)} (h : LA.RedL w R) {i : Nat} (hi : i < R.length) : lix (R.getD i default) = (LA.lead (R.getD i default) : Int) ∧ LA.lead (R.getD i default) < w := by
  have h1 : LA.lead (R.getD i default) < w := h.red.lt i hi
  have h2 : (R.getD i default).length = w := (h.ok i hi).1
  exact ⟨lix_yes (by omega), h1⟩
theorem red_ok {w : Nat} {R : List (List Int)} (h : LA.RedL w R) : ∀ i, i < R.length → LA.VecOk w (R.getD i default) := h.ok
theorem red_mat {w : Nat} {R : List (List Int)} (h : LA.RedL w R) (hw : w ≤ 40) : matB R = true := by
  refine matB_iff.2 ⟨fun i hi => ⟨vecB_iff.1 (vecB_of (red_ok h i hi) hw), ?_⟩, by have := red_len h; omega⟩
  rw [(red_ok h i hi).1, (red_ok h 0 (by omega)).1]
theorem col_red {w : Nat} {R : List (List Int)} (h : LA.RedL w R) (hw : w ≤ 40) : ∃ w' : Nat, colN R = w' ∧ LA.RedL w' R ∧ w' ≤ 40 := by
  rcases Nat.eq_zero_or_pos R.length with h0 | h0
  · have : R = [] := List.eq_nil_of_length_eq_zero h0
    subst this
    exact ⟨0, colN_nil rfl, .nil, by omega⟩
  · exact ⟨w, by rw [colN_eq]; exact (red_ok h 0 h0).1, h, hw⟩
attribute [local irreducible] matB vecB colN LA.redL LA.addS LA.sclS LA.redV LA.insL LA.lead lix
theorem sEqiS_fn (xs : List Int) (h : xs.length ≤ 1048576) : Fn Tryz.prog 207 true (.cons (.ri false .i64 xs) (.cons (.ri false .i64 xs) .nil)) [] .tt [] := by
  (refine Fn_of tysOk Tryz.func207 rfl rfl (by simp [AV.len, Tryz.f207]) ⟨?_⟩; conv => whnf)
  (repeat' first | (refine zK (fun hs => ?_) (fun hs => ?_) <;> ((try simp only [Ct.len] at hs); revert hs; intro _; conv => whnf)) | (refine zI (fun _ => ?_) (fun _ => ?_)<;> conv => whnf)|((first|refine zA ?_|refine zB ?_|refine zC ?_|refine zD ?_|refine zE ?_|refine zF ?_|refine zG ?_|fail); conv => whnf)|(refine zJ (fun _ => ?_) ?_<;> conv => whnf)|((first | refine condN Tryz.underlying4 (Nx.mk ?_) | refine zH ?_ | refine Nx.mk ?_); conv => whnf))
  (all_goals try first | contradiction | (exfalso; omega))
  refine loopI tysOk [] (fun i : Nat => [(5, .I i)]) (fun i => []) (fun i => i ≤ xs.length) (fun i => xs.length - i) 0 (Nat.zero_le _) ?_ ?_
  · ((try conv => whnf); refine ⟨rfl, by rfl, ?_, ?_⟩ <;> ((repeat' ((try conv => whnf); (first|exact zU|refine And.intro ?_ ?_|exact fun _ _ _ _ => Eq.refl _|refine cellJ (fun _ _ => ?_)|(refine cellB ?_; (conv => whnf); refine And.intro ?_ ?_)|exact zV|fail))) <;> (try conv => whnf)))
  intro i hi
  by_cases hlt : i < xs.length
  · (repeat' first | ((refine VC_draw (sf := []) tysOk (by kernel_rfl) (by kernel_rfl) (Nx.mk ?_); conv => whnf)) | (refine zK (fun hs => ?_) (fun hs => ?_) <;> ((try simp only [Ct.len] at hs); revert hs; intro _; conv => whnf)) | (refine zI (fun _ => ?_) (fun _ => ?_)<;> conv => whnf)|((first|refine zA ?_|refine zB ?_|refine zC ?_|refine zD ?_|refine zE ?_|refine zF ?_|refine zG ?_|fail); conv => whnf)|(refine zJ (fun _ => ?_) ?_<;> conv => whnf)|((first | refine condN Tryz.underlying4 (Nx.mk ?_) | refine zH ?_ | refine Nx.mk ?_); conv => whnf))
    (all_goals try first | contradiction | (exfalso; omega))
    refine ⟨i + 1, by omega, by omega, ?_⟩
    ((try conv => whnf); refine ⟨rfl, by rfl, ?_, ?_⟩ <;> ((repeat' ((try conv => whnf); (first|exact zU|refine And.intro ?_ ?_|exact fun _ _ _ _ => Eq.refl _|refine cellJ (fun _ _ => ?_)|(refine cellB ?_; (conv => whnf); refine And.intro ?_ ?_)|exact zV|fail))) <;> (try conv => whnf)))
  · obtain rfl : i = xs.length := by omega
    (repeat' first | (refine zK (fun hs => ?_) (fun hs => ?_) <;> ((try simp only [Ct.len] at hs); revert hs; intro _; conv => whnf)) | (refine zI (fun _ => ?_) (fun _ => ?_)<;> conv => whnf)|((first|refine zA ?_|refine zB ?_|refine zC ?_|refine zD ?_|refine zE ?_|refine zF ?_|refine zG ?_|fail); conv => whnf)|(refine zJ (fun _ => ?_) ?_<;> conv => whnf)|((first | refine condN Tryz.underlying4 (Nx.mk ?_) | refine zH ?_ | refine Nx.mk ?_); conv => whnf))
    (all_goals try first | contradiction | (exfalso; omega))
    all_goals (refine ⟨[], rfl, ⟨rfl, rfl, trivial, trivial⟩, ?_, ⟨?_, trivial⟩, fun _ => ⟨?_, trivial⟩⟩ <;> ((repeat' ((try conv => whnf); (first|exact zU|refine And.intro ?_ ?_|exact fun _ _ _ _ => Eq.refl _|refine cellJ (fun _ _ => ?_)|(refine cellB ?_; (conv => whnf); refine And.intro ?_ ?_)|exact zV|fail))) <;> (try conv => whnf)))
theorem sEqMS_fn (xs : List (List Int)) (h : xs.length ≤ 1048576) (hx : ∀ i, i < xs.length → (xs.getD i default).length ≤ 1048576) : Fn Tryz.prog 198 true (.cons (.rs false xs.length 1 (cellsA ints_R_i64 xs)) (.cons (.rs false xs.length 1 (cellsA ints_R_i64 xs)) .nil)) [] .tt [] := by
  (refine Fn_of tysOk Tryz.func198 rfl rfl (by simp [AV.len, Tryz.f198]) ⟨?_⟩; conv => whnf)
  (repeat' first | (refine zK (fun hs => ?_) (fun hs => ?_) <;> ((try simp only [Ct.len] at hs); revert hs; intro _; conv => whnf)) | (refine zI (fun _ => ?_) (fun _ => ?_)<;> conv => whnf)|((first|refine zA ?_|refine zB ?_|refine zC ?_|refine zD ?_|refine zE ?_|refine zF ?_|refine zG ?_|fail); conv => whnf)|(refine zJ (fun _ => ?_) ?_<;> conv => whnf)|((first | refine condN Tryz.underlying4 (Nx.mk ?_) | refine zH ?_ | refine Nx.mk ?_); conv => whnf))
  (all_goals try first | contradiction | (exfalso; omega))
  refine loopI tysOk [] (fun i : Nat => [(5, .I i)]) (fun i => []) (fun i => i ≤ xs.length) (fun i => xs.length - i) 0 (Nat.zero_le _) ?_ ?_
  · ((try conv => whnf); refine ⟨rfl, by rfl, ?_, ?_⟩ <;> ((repeat' ((try conv => whnf); (first|exact zU|refine And.intro ?_ ?_|exact fun _ _ _ _ => Eq.refl _|refine cellJ (fun _ _ => ?_)|(refine cellB ?_; (conv => whnf); refine And.intro ?_ ?_)|exact zV|fail))) <;> (try conv => whnf)))
  intro i hi
  by_cases hlt : i < xs.length
  · have ce := sEqiS_fn (xs.getD i default) (hx i hlt)
    (repeat' first | ((with_reducible show ∃ _ : Bool, _); first | (refine ⟨_, [], _, [], _, _, ce, rfl, trivial, zW, Nx.mk ?_⟩; conv => whnf)) | ((refine VC_draw (sf := []) tysOk (by kernel_rfl) (by kernel_rfl) (Nx.mk ?_); conv => whnf)) | (refine zK (fun hs => ?_) (fun hs => ?_) <;> ((try simp only [Ct.len] at hs); revert hs; intro _; conv => whnf)) | (refine zI (fun _ => ?_) (fun _ => ?_)<;> conv => whnf)|((first|refine zA ?_|refine zB ?_|refine zC ?_|refine zD ?_|refine zE ?_|refine zF ?_|refine zG ?_|fail); conv => whnf)|(refine zJ (fun _ => ?_) ?_<;> conv => whnf)|((first | refine condN Tryz.underlying4 (Nx.mk ?_) | refine zH ?_ | refine Nx.mk ?_); conv => whnf))
    (all_goals try first | contradiction | (exfalso; omega))
    refine ⟨i + 1, by omega, by omega, ?_⟩
    ((try conv => whnf); refine ⟨rfl, by rfl, ?_, ?_⟩ <;> ((repeat' ((try conv => whnf); (first|exact zU|refine And.intro ?_ ?_|exact fun _ _ _ _ => Eq.refl _|refine cellJ (fun _ _ => ?_)|(refine cellB ?_; (conv => whnf); refine And.intro ?_ ?_)|exact zV|fail))) <;> (try conv => whnf)))
  · obtain rfl : i = xs.length := by omega
    (repeat' first | (refine zK (fun hs => ?_) (fun hs => ?_) <;> ((try simp only [Ct.len] at hs); revert hs; intro _; conv => whnf)) | (refine zI (fun _ => ?_) (fun _ => ?_)<;> conv => whnf)|((first|refine zA ?_|refine zB ?_|refine zC ?_|refine zD ?_|refine zE ?_|refine zF ?_|refine zG ?_|fail); conv => whnf)|(refine zJ (fun _ => ?_) ?_<;> conv => whnf)|((first | refine condN Tryz.underlying4 (Nx.mk ?_) | refine zH ?_ | refine Nx.mk ?_); conv => whnf))
    (all_goals try first | contradiction | (exfalso; omega))
    all_goals (refine ⟨[], rfl, ⟨rfl, rfl, trivial, trivial⟩, ?_, ⟨?_, trivial⟩, fun _ => ⟨?_, trivial⟩⟩ <;> ((repeat' ((try conv => whnf); (first|exact zU|refine And.intro ?_ ?_|exact fun _ _ _ _ => Eq.refl _|refine cellJ (fun _ _ => ?_)|(refine cellB ?_; (conv => whnf); refine And.intro ?_ ?_)|exact zV|fail))) <;> (try conv => whnf)))
theorem sRR_fn {w : Nat} (R : List (List Int)) (h : LA.RedL w R) (hw : w ≤ 40) : Fn Tryz.prog 199 true (.cons (.rs false R.length 1 (cellsA ints_R_i64 R)) .nil) [] (.rs true R.length 1 (cellsA ints_T_i64 R)) [] := by
  obtain ⟨w', e1, e2, e3⟩ := col_red h hw
  have hl := red_len h
  have hx := fun i (hi : i < R.length) => (red_ok h i hi).1
  have c1 := (sMat_fn R (by omega) (fun i hi => by have := hx i hi; omega)).tt (red_mat h hw)
  have c2 := sCol_fn R (by omega)
  rw [e1] at c2
  have c3 := sRed_fn (w := w') R (by omega) e3 (red_ok e2)
  rw [LA.redL_id e2] at c3
  have c3 := c3.fzR
  (refine Fn_of tysOk Tryz.func199 rfl rfl (by simp [AV.len, Tryz.f199]) ⟨?_⟩; conv => whnf)
  (repeat' first | ((with_reducible show ∃ _ : Bool, _); first | (refine ⟨_, [], _, [], _, _, c1, rfl, trivial, zW, Nx.mk ?_⟩; conv => whnf)|(refine ⟨_, [], _, [], _, _, c2, rfl, trivial, zW, Nx.mk ?_⟩; conv => whnf)|(refine ⟨_, [], _, [], _, _, c3, rfl, trivial, zW, Nx.mk ?_⟩; conv => whnf))  | (refine zK (fun hs => ?_) (fun hs => ?_) <;> ((try simp only [Ct.len] at hs); revert hs; intro _; conv => whnf)) | (refine zI (fun _ => ?_) (fun _ => ?_)<;> conv => whnf)|((first|refine zA ?_|refine zB ?_|refine zC ?_|refine zD ?_|refine zE ?_|refine zF ?_|refine zG ?_|fail); conv => whnf)|(refine zJ (fun _ => ?_) ?_<;> conv => whnf)|((first | refine condN Tryz.underlying4 (Nx.mk ?_) | refine zH ?_ | refine Nx.mk ?_); conv => whnf))
  (all_goals try first | contradiction | (exfalso; omega))
  all_goals
    refine ⟨[], rfl, ?_, ?_, ?_, fun _ => ?_⟩
    · ((try conv => whnf); refine ⟨rfl, by rfl, ?_, ?_⟩ <;> ((repeat' ((try conv => whnf); (first|exact zU|refine And.intro ?_ ?_|exact fun _ _ _ _ => Eq.refl _|refine cellJ (fun _ _ => ?_)|(refine cellB ?_; (conv => whnf); refine And.intro ?_ ?_)|exact zV|fail))) <;> (try conv => whnf)))
      all_goals exact .inr rfl
    all_goals ((repeat' ((try conv => whnf); (first|exact zU|refine And.intro ?_ ?_|exact fun _ _ _ _ => Eq.refl _|refine cellJ (fun _ _ => ?_)|(refine cellB ?_; (conv => whnf); refine And.intro ?_ ?_)|exact zV|fail))) <;> (try conv => whnf))
    all_goals exact .inr rfl
theorem sIsr_fn {w : Nat} (R : List (List Int)) (h : LA.RedL w R) (hw : w ≤ 40) : Fn Tryz.prog 185 true (.cons (.rs false R.length 1 (cellsA ints_R_i64 R)) .nil) [] .tt [] := by
  have hl := red_len h
  have hx := fun i (hi : i < R.length) => (red_ok h i hi).1
  have c1 := (sMat_fn R (by omega) (fun i hi => by have := hx i hi; omega)).tt (red_mat h hw)
  have c2 := sRR_fn R h hw
  have c3 := sEqMS_fn R (by omega) (fun i hi => by have := hx i hi; omega)
  (refine Fn_of tysOk Tryz.func185 rfl rfl (by simp [AV.len, Tryz.f185]) ⟨?_⟩; conv => whnf)
  (repeat' first | ((with_reducible show ∃ _ : Bool, _); first | (refine ⟨_, [], _, [], _, _, c1, rfl, trivial, zW, Nx.mk ?_⟩; conv => whnf)|(refine ⟨_, [], _, [], _, _, c2, rfl, trivial, zW, Nx.mk ?_⟩; conv => whnf)|(refine ⟨_, [], _, [], _, _, c3, rfl, trivial, zW, Nx.mk ?_⟩; conv => whnf))  | (refine zK (fun hs => ?_) (fun hs => ?_) <;> ((try simp only [Ct.len] at hs); revert hs; intro _; conv => whnf)) | (refine zI (fun _ => ?_) (fun _ => ?_)<;> conv => whnf)|((first|refine zA ?_|refine zB ?_|refine zC ?_|refine zD ?_|refine zE ?_|refine zF ?_|refine zG ?_|fail); conv => whnf)|(refine zJ (fun _ => ?_) ?_<;> conv => whnf)|((first | refine condN Tryz.underlying4 (Nx.mk ?_) | refine zH ?_ | refine Nx.mk ?_); conv => whnf))
  (all_goals try first | contradiction | (exfalso; omega))
  all_goals (refine ⟨[], rfl, ⟨rfl, rfl, trivial, trivial⟩, ?_, ⟨?_, trivial⟩, fun _ => ⟨?_, trivial⟩⟩ <;> ((repeat' ((try conv => whnf); (first|exact zU|refine And.intro ?_ ?_|exact fun _ _ _ _ => Eq.refl _|refine cellJ (fun _ _ => ?_)|(refine cellB ?_; (conv => whnf); refine And.intro ?_ ?_)|exact zV|fail))) <;> (try conv => whnf)))
theorem sIvb_fn {w : Nat} (R : List (List Int)) (h : LA.RedL w R) (hw : w ≤ 40) : Fn Tryz.prog 162 true (.cons (BasR w R) .nil) [] .tt [] := by
  have hl := red_len h
  have hx := fun i (hi : i < R.length) => (red_ok h i hi).1
  have c1 := (l1In_fn w 0 40).tt (decide_eq_true (by omega))
  have c2 := sIsr_fn R h hw
  (refine Fn_of tysOk Tryz.func162 rfl rfl (by simp [AV.len, Tryz.f162]) ⟨?_⟩; conv => whnf)
  (repeat' first | (refine zK (fun hs => ?_) (fun hs => ?_) <;> ((try simp only [Ct.len] at hs); revert hs; intro _; conv => whnf)) | (refine zI (fun _ => ?_) (fun _ => ?_)<;> conv => whnf)|((first|refine zA ?_|refine zB ?_|refine zC ?_|refine zD ?_|refine zE ?_|refine zF ?_|refine zG ?_|fail); conv => whnf)|(refine zJ (fun _ => ?_) ?_<;> conv => whnf)|((first | refine condN Tryz.underlying4 (Nx.mk ?_) | refine zH ?_ | refine Nx.mk ?_); conv => whnf))
  refine loopI tysOk [] (fun i : Nat => [(3, .I i)]) (fun i => []) (fun i => i ≤ R.length) (fun i => R.length - i) 0 (Nat.zero_le _) ?_ ?_
  · ((try conv => whnf); refine ⟨rfl, by rfl, ?_, ?_⟩ <;> ((repeat' ((try conv => whnf); (first|exact zU|refine And.intro ?_ ?_|exact fun _ _ _ _ => Eq.refl _|refine cellJ (fun _ _ => ?_)|(refine cellB ?_; (conv => whnf); refine And.intro ?_ ?_)|exact zV|fail))) <;> (try conv => whnf)))
  intro i hi
  by_cases hlt : i < R.length
  · have h7 := hx i hlt
    (repeat' first | ((refine VC_draw (sf := []) tysOk (by kernel_rfl) (by kernel_rfl) (Nx.mk ?_); conv => whnf)) | (refine zK (fun hs => ?_) (fun hs => ?_) <;> ((try simp only [Ct.len] at hs); revert hs; intro _; conv => whnf)) | (refine zI (fun _ => ?_) (fun _ => ?_)<;> conv => whnf)|((first|refine zA ?_|refine zB ?_|refine zC ?_|refine zD ?_|refine zE ?_|refine zF ?_|refine zG ?_|fail); conv => whnf)|(refine zJ (fun _ => ?_) ?_<;> conv => whnf)|((first | refine condN Tryz.underlying4 (Nx.mk ?_) | refine zH ?_ | refine Nx.mk ?_); conv => whnf))
    (all_goals try first | contradiction | (exfalso; omega))
    refine ⟨i + 1, by omega, by omega, ?_⟩
    ((try conv => whnf); refine ⟨rfl, by rfl, ?_, ?_⟩ <;> ((repeat' ((try conv => whnf); (first|exact zU|refine And.intro ?_ ?_|exact fun _ _ _ _ => Eq.refl _|refine cellJ (fun _ _ => ?_)|(refine cellB ?_; (conv => whnf); refine And.intro ?_ ?_)|exact zV|fail))) <;> (try conv => whnf)))
  · obtain rfl : i = R.length := by omega
    (repeat' first | ((with_reducible show ∃ _ : Bool, _); first | (refine ⟨_, [], _, [], _, _, c1, rfl, trivial, zW, Nx.mk ?_⟩; conv => whnf)|(refine ⟨_, [], _, [], _, _, c2, rfl, trivial, zW, Nx.mk ?_⟩; conv => whnf))  | (refine zK (fun hs => ?_) (fun hs => ?_) <;> ((try simp only [Ct.len] at hs); revert hs; intro _; conv => whnf)) | (refine zI (fun _ => ?_) (fun _ => ?_)<;> conv => whnf)|((first|refine zA ?_|refine zB ?_|refine zC ?_|refine zD ?_|refine zE ?_|refine zF ?_|refine zG ?_|fail); conv => whnf)|(refine zJ (fun _ => ?_) ?_<;> conv => whnf)|((first | refine condN Tryz.underlying4 (Nx.mk ?_) | refine zH ?_ | refine Nx.mk ?_); conv => whnf))
    (all_goals try first | contradiction | (exfalso; omega))
    all_goals (refine ⟨[], rfl, ⟨rfl, rfl, trivial, trivial⟩, ?_, ⟨?_, trivial⟩, fun _ => ⟨?_, trivial⟩⟩ <;> ((repeat' ((try conv => whnf); (first|exact zU|refine And.intro ?_ ?_|exact fun _ _ _ _ => Eq.refl _|refine cellJ (fun _ _ => ?_)|(refine cellB ?_; (conv => whnf); refine And.intro ?_ ?_)|exact zV|fail))) <;> (try conv => whnf)))
theorem sCpB_fn {w : Nat} (R : List (List Int)) (h : LA.RedL w R) (hw : w ≤ 40) : Fn Tryz.prog 188 true (.cons (BasR w R) .nil) [] (BasT w R) [] := by
  have hl := red_len h
  have hx := fun i (hi : i < R.length) => (red_ok h i hi).1
  have cc := ((sCopy_fn R (by omega) (fun i hi => by have := hx i hi; omega)).fzK (fun N h => h.symm)).fzR
  (refine Fn_of tysOk Tryz.func188 rfl rfl (by simp [AV.len, Tryz.f188]) ⟨?_⟩; conv => whnf)
  (repeat' first | ((with_reducible show ∃ _ : Bool, _); first | (refine ⟨_, [], _, [], _, _, cc, rfl, trivial, zW, Nx.mk ?_⟩; conv => whnf)) | ((refine VC_draw (sf := []) tysOk (by kernel_rfl) (by kernel_rfl) (Nx.mk ?_); conv => whnf)) | (refine zK (fun hs => ?_) (fun hs => ?_) <;> ((try simp only [Ct.len] at hs); revert hs; intro _; conv => whnf)) | (refine zI (fun _ => ?_) (fun _ => ?_)<;> conv => whnf)|((first|refine zA ?_|refine zB ?_|refine zC ?_|refine zD ?_|refine zE ?_|refine zF ?_|refine zG ?_|fail); conv => whnf)|(refine zJ (fun _ => ?_) ?_<;> conv => whnf)|((first | refine condN Tryz.underlying4 (Nx.mk ?_) | refine zH ?_ | refine Nx.mk ?_); conv => whnf))
  (all_goals try first | contradiction | (exfalso; omega))
  all_goals
    refine ⟨[], rfl, ?_, ?_, ?_, fun _ => ?_⟩
    · ((try conv => whnf); refine ⟨rfl, by rfl, ?_, ?_⟩ <;> ((repeat' ((try conv => whnf); (first|exact zU|refine And.intro ?_ ?_|exact fun _ _ _ _ => Eq.refl _|refine cellJ (fun _ _ => ?_)|(refine cellB ?_; (conv => whnf); refine And.intro ?_ ?_)|exact zV|fail))) <;> (try conv => whnf)))
      all_goals exact .inr rfl
    all_goals ((repeat' ((try conv => whnf); (first|exact zU|refine And.intro ?_ ?_|exact fun _ _ _ _ => Eq.refl _|refine cellJ (fun _ _ => ?_)|(refine cellB ?_; (conv => whnf); refine And.intro ?_ ?_)|exact zV|fail))) <;> (try conv => whnf))
    all_goals exact .inr rfl
theorem sFit_fn {w : Nat} (R : List (List Int)) (v : List Int) (h : LA.RedL w R) (hw : w ≤ 40) (hv : LA.VecOk w v) : Fn Tryz.prog 186 true (.cons (BasR w R) (.cons (.ri false .i64 v) .nil)) [] .tt [] := by
  have hvl := hv.1
  have c1 := sIvb_fn R h hw
  have c2 := (sVec_fn v (by omega)).tt (vecB_of hv hw)
  (refine Fn_of tysOk Tryz.func186 rfl rfl (by simp [AV.len, Tryz.f186]) ⟨?_⟩; conv => whnf)
  (repeat' first | ((with_reducible show ∃ _ : Bool, _); first | (refine ⟨_, [], _, [], _, _, c1, rfl, trivial, zW, Nx.mk ?_⟩; conv => whnf)|(refine ⟨_, [], _, [], _, _, c2, rfl, trivial, zW, Nx.mk ?_⟩; conv => whnf))  | (refine zK (fun hs => ?_) (fun hs => ?_) <;> ((try simp only [Ct.len] at hs); revert hs; intro _; conv => whnf)) | (refine zI (fun _ => ?_) (fun _ => ?_)<;> conv => whnf)|((first|refine zA ?_|refine zB ?_|refine zC ?_|refine zD ?_|refine zE ?_|refine zF ?_|refine zG ?_|fail); conv => whnf)|(refine zJ (fun _ => ?_) ?_<;> conv => whnf)|((first | refine condN Tryz.underlying4 (Nx.mk ?_) | refine zH ?_ | refine Nx.mk ?_); conv => whnf))
  (all_goals try first | contradiction | (exfalso; omega))
  all_goals (refine ⟨[], rfl, ⟨rfl, rfl, trivial, trivial⟩, ?_, ⟨?_, trivial⟩, fun _ => ⟨?_, trivial⟩⟩ <;> ((repeat' ((try conv => whnf); (first|exact zU|refine And.intro ?_ ?_|exact fun _ _ _ _ => Eq.refl _|refine cellJ (fun _ _ => ?_)|(refine cellB ?_; (conv => whnf); refine And.intro ?_ ?_)|exact zV|fail))) <;> (try conv => whnf)))
theorem sSub_fn (x : Int) (h : 0 ≤ x ∧ x ≤ 1018) : Fn Tryz.prog 209 true (.cons (.I 0) (.cons (.I x) .nil)) [] (.I ((1019 - x) % 1019)) [] := by
  have t : (0 - x + 1019).tmod 1019 = (1019 - x) % 1019 := by rw [Int.tmod_eq_emod_of_nonneg (by omega)]; congr 1; omega
  have c1 := (sEl_fn 0).tt (decide_eq_true (by omega))
  have c2 := (sEl_fn x).tt (decide_eq_true (by omega))
  have c3 : Fn Tryz.prog 211 true (.cons (.I 0) (.cons (.I x) .nil)) [] .tt [] := by
    (refine Fn_of tysOk Tryz.func211 rfl rfl (by simp [AV.len, Tryz.f211]) ⟨?_⟩; conv => whnf)
    (repeat' first | ((with_reducible show ∃ _ : Bool, _); first | (refine ⟨_, [], _, [], _, _, c1, rfl, trivial, zW, Nx.mk ?_⟩; conv => whnf)|(refine ⟨_, [], _, [], _, _, c2, rfl, trivial, zW, Nx.mk ?_⟩; conv => whnf))  | (refine zK (fun hs => ?_) (fun hs => ?_) <;> ((try simp only [Ct.len] at hs); revert hs; intro _; conv => whnf)) | (refine zI (fun _ => ?_) (fun _ => ?_)<;> conv => whnf)|((first|refine zA ?_|refine zB ?_|refine zC ?_|refine zD ?_|refine zE ?_|refine zF ?_|refine zG ?_|fail); conv => whnf)|(refine zJ (fun _ => ?_) ?_<;> conv => whnf)|((first | refine condN Tryz.underlying4 (Nx.mk ?_) | refine zH ?_ | refine Nx.mk ?_); conv => whnf))
    (all_goals try first | contradiction | (exfalso; omega))
    all_goals (refine ⟨[], rfl, ⟨rfl, rfl, trivial, trivial⟩, ?_, ⟨?_, trivial⟩, fun _ => ⟨?_, trivial⟩⟩ <;> ((repeat' ((try conv => whnf); (first|exact zU|refine And.intro ?_ ?_|exact fun _ _ _ _ => Eq.refl _|refine cellJ (fun _ _ => ?_)|(refine cellB ?_; (conv => whnf); refine And.intro ?_ ?_)|exact zV|fail))) <;> (try conv => whnf)))
  (refine Fn_of tysOk Tryz.func209 rfl rfl (by simp [AV.len, Tryz.f209]) ⟨?_⟩; conv => whnf)
  (repeat' first | ((with_reducible show ∃ _ : Bool, _); first | (refine ⟨_, [], _, [], _, _, c3, rfl, trivial, zW, Nx.mk ?_⟩; conv => whnf))  | (refine zK (fun hs => ?_) (fun hs => ?_) <;> ((try simp only [Ct.len] at hs); revert hs; intro _; conv => whnf)) | (refine zI (fun _ => ?_) (fun _ => ?_)<;> conv => whnf)|((first|refine zA ?_|refine zB ?_|refine zC ?_|refine zD ?_|refine zE ?_|refine zF ?_|refine zG ?_|fail); conv => whnf)|(refine zJ (fun _ => ?_) ?_<;> conv => whnf)|((first | refine condN Tryz.underlying4 (Nx.mk ?_) | refine zH ?_ | refine Nx.mk ?_); conv => whnf))
  (all_goals try first | contradiction | (exfalso; omega))
  all_goals ((refine ⟨[], rfl, ⟨rfl, rfl, trivial, trivial⟩, ?_, ⟨?_, trivial⟩, fun _ => ⟨?_, trivial⟩⟩ <;> ((repeat' ((try conv => whnf); (first|exact zU|refine And.intro ?_ ?_|exact fun _ _ _ _ => Eq.refl _|refine cellJ (fun _ _ => ?_)|(refine cellB ?_; (conv => whnf); refine And.intro ?_ ?_)|exact zV|fail))) <;> (try conv => whnf))); exact t)
theorem redV_zero {R : List (List Int)} {v : List Int} : LA.redV R v 0 = v := by with_unfolding_all rfl
theorem redV_succ {R : List (List Int)} {v : List Int} {i : Nat} : LA.redV R v (i + 1) = LA.addS (LA.redV R v i) (R.getD i default) ((1019 - (LA.redV R v i).getD (LA.lead (R.getD i default)) 0) % 1019) := by with_unfolding_all rfl
theorem sRv2_fn {w : Nat} (R : List (List Int)) (v : List Int) (h : LA.RedL w R) (hw : w ≤ 40) (hv : LA.VecOk w v) : Fn Tryz.prog 200 true (.cons (BasR w R) (.cons (.ri false .i64 v) .nil)) [] (.os (rt 16)) [(16, .row 3 (.ints .i64 (LA.redV R v R.length)))] := by
  have hl := red_len h
  have hvl := hv.1
  have c1 := sFit_fn R v h hw hv
  (refine Fn_of tysOk Tryz.func200 rfl rfl (by simp [AV.len, Tryz.f200]) ⟨?_⟩; conv => whnf)
  (repeat' first | ((with_reducible show ∃ _ : Bool, _); first | (refine ⟨_, [], _, [], _, _, c1, rfl, trivial, zW, Nx.mk ?_⟩; conv => whnf))  | (refine zK (fun hs => ?_) (fun hs => ?_) <;> ((try simp only [Ct.len] at hs); revert hs; intro _; conv => whnf)) | (refine zI (fun _ => ?_) (fun _ => ?_)<;> conv => whnf)|((first|refine zA ?_|refine zB ?_|refine zC ?_|refine zD ?_|refine zE ?_|refine zF ?_|refine zG ?_|fail); conv => whnf)|(refine zJ (fun _ => ?_) ?_<;> conv => whnf)|((first | refine condN Tryz.underlying4 (Nx.mk ?_) | refine zH ?_ | refine Nx.mk ?_); conv => whnf))
  (all_goals try first | contradiction | (exfalso; omega))
  refine loopW tysOk [nm 38] (fun i : Nat => [(5, .os (rt (nm 12))), (6, .I i), (12, .top), (14, .top)]) (fun i => [(nm 12, some (.row 3 (.ints .i64 (LA.redV R v i))))]) (fun i => i ≤ R.length) (fun i => R.length - i) 0 (Nat.zero_le _) ?_ ?_
  · ((try conv => whnf); refine ⟨rfl, by rfl, ?_, ?_⟩ <;> ((repeat' ((try conv => whnf); (first|exact zU|refine And.intro ?_ ?_|exact fun _ _ _ _ => Eq.refl _|refine cellJ (fun _ _ => ?_)|(refine cellB ?_; (conv => whnf); refine And.intro ?_ ?_)|exact zV|fail))) <;> (try conv => whnf)))
    all_goals first | (rw [redV_zero]; rfl)
  · intro i hi
    dsimp only
    by_cases hlt : i < R.length
    · have hok := LA.redV_ok (R := R) hv i
      obtain ⟨x1, x2⟩ := red_lix h hlt
      have hk := hok.at_ x2
      have hro := red_ok h i hlt
      have hrl := hro.1
      have hol := hok.1
      have c2 := sLix_fn (R.getD i default) (by omega)
      rw [x1] at c2
      have c3 := sSub_fn ((LA.redV R v i).getD (LA.lead (R.getD i default)) 0) hk
      have c4 := sAddS_fn (LA.redV R v i) (R.getD i default) ((1019 - (LA.redV R v i).getD (LA.lead (R.getD i default)) 0) % 1019) hok hro hw (by omega)
      rw [← redV_succ] at c4
      (repeat' first | ((with_reducible show ∃ _ : Bool, _); first | (refine ⟨_, [], _, [], _, _, c2, rfl, trivial, zW, Nx.mk ?_⟩; conv => whnf)|(refine ⟨_, [], _, [], _, _, c3, rfl, trivial, zW, Nx.mk ?_⟩; conv => whnf)|(refine ⟨_, [], _, [], _, _, c4, rfl, trivial, zW, Nx.mk ?_⟩; conv => whnf)) | ((refine VC_draw (sf := []) tysOk (by kernel_rfl) (by kernel_rfl) (Nx.mk ?_); conv => whnf)) | (refine idxInt (LA.lead (R.getD i default)) rfl (show LA.lead (R.getD i default) < (LA.redV R v i).length by omega) (Nx.mk ?_); conv => whnf)|(refine zK (fun hs => ?_) (fun hs => ?_) <;> ((try simp only [Ct.len] at hs); revert hs; intro _; conv => whnf)) | (refine zI (fun _ => ?_) (fun _ => ?_)<;> conv => whnf)|((first|refine zA ?_|refine zB ?_|refine zC ?_|refine zD ?_|refine zE ?_|refine zF ?_|refine zG ?_|fail); conv => whnf)|(refine zJ (fun _ => ?_) ?_<;> conv => whnf)|((first | refine condN Tryz.underlying4 (Nx.mk ?_) | refine zH ?_ | refine Nx.mk ?_); conv => whnf))
      (all_goals try first | contradiction | (exfalso; omega))
      all_goals
        refine ⟨i + 1, by omega, by omega, [(nm 38, nm 12)], rfl, ?_⟩
        ((try conv => whnf); refine ⟨rfl, by rfl, ?_, ?_⟩ <;> ((repeat' ((try conv => whnf); (first|exact zU|refine And.intro ?_ ?_|exact fun _ _ _ _ => Eq.refl _|refine cellJ (fun _ _ => ?_)|(refine cellB ?_; (conv => whnf); refine And.intro ?_ ?_)|exact zV|fail))) <;> (try conv => whnf)))
    · obtain rfl : i = R.length := by omega
      (repeat' first | (refine zK (fun hs => ?_) (fun hs => ?_) <;> ((try simp only [Ct.len] at hs); revert hs; intro _; conv => whnf)) | (refine zI (fun _ => ?_) (fun _ => ?_)<;> conv => whnf)|((first|refine zA ?_|refine zB ?_|refine zC ?_|refine zD ?_|refine zE ?_|refine zF ?_|refine zG ?_|fail); conv => whnf)|(refine zJ (fun _ => ?_) ?_<;> conv => whnf)|((first | refine condN Tryz.underlying4 (Nx.mk ?_) | refine zH ?_ | refine Nx.mk ?_); conv => whnf))
      (all_goals try first | contradiction | (exfalso; omega))
      all_goals
        refine ⟨[(16, nm 12)], rfl, ?_, ?_, ?_, fun _ => ?_⟩
        · ((try conv => whnf); refine ⟨rfl, by rfl, ?_, ?_⟩ <;> ((repeat' ((try conv => whnf); (first|exact zU|refine And.intro ?_ ?_|exact fun _ _ _ _ => Eq.refl _|refine cellJ (fun _ _ => ?_)|(refine cellB ?_; (conv => whnf); refine And.intro ?_ ?_)|exact zV|fail))) <;> (try conv => whnf)))
        all_goals ((repeat' ((try conv => whnf); (first|exact zU|refine And.intro ?_ ?_|exact fun _ _ _ _ => Eq.refl _|refine cellJ (fun _ _ => ?_)|(refine cellB ?_; (conv => whnf); refine And.intro ?_ ?_)|exact zV|fail))) <;> (try conv => whnf))
def ctB (R : List (List Int)) (v : List Int) : Bool := decide (lix (LA.redV R v R.length) < 0)
theorem sCon_fn {w : Nat} (R : List (List Int)) (v : List Int) (h : LA.RedL w R) (hw : w ≤ 40) (hv : LA.VecOk w v) : Fn Tryz.prog 187 true (.cons (BasR w R) (.cons (.ri false .i64 v) .nil)) [] (.b (ctB R v)) [] := by
  have c1 := sFit_fn R v h hw hv
  have c2 := (sRv2_fn R v h hw hv).fzI
  have hok := (LA.redV_ok (R := R) hv R.length).1
  have c3 := sLix_fn (LA.redV R v R.length) (by omega)
  (refine Fn_of tysOk Tryz.func187 rfl rfl (by simp [AV.len, Tryz.f187]) ⟨?_⟩; conv => whnf)
  (repeat' first | ((with_reducible show ∃ _ : Bool, _); first | (refine ⟨_, [], _, [], _, _, c1, rfl, trivial, zW, Nx.mk ?_⟩; conv => whnf)|(refine ⟨_, [], _, [], _, _, c2, rfl, trivial, zW, Nx.mk ?_⟩; conv => whnf)|(refine ⟨_, [], _, [], _, _, c3, rfl, trivial, zW, Nx.mk ?_⟩; conv => whnf))  | (refine zK (fun hs => ?_) (fun hs => ?_) <;> ((try simp only [Ct.len] at hs); revert hs; intro _; conv => whnf)) | (refine zI (fun _ => ?_) (fun _ => ?_)<;> conv => whnf)|((first|refine zA ?_|refine zB ?_|refine zC ?_|refine zD ?_|refine zE ?_|refine zF ?_|refine zG ?_|fail); conv => whnf)|(refine zJ (fun _ => ?_) ?_<;> conv => whnf)|((first | refine condN Tryz.underlying4 (Nx.mk ?_) | refine zH ?_ | refine Nx.mk ?_); conv => whnf))
  (all_goals try first | contradiction | (exfalso; omega))
  all_goals first | ((refine ⟨[], rfl, ⟨rfl, rfl, trivial, trivial⟩, ?_, ⟨?_, trivial⟩, fun _ => ⟨?_, trivial⟩⟩ <;> ((repeat' ((try conv => whnf); (first|exact zU|refine And.intro ?_ ?_|exact fun _ _ _ _ => Eq.refl _|refine cellJ (fun _ _ => ?_)|(refine cellB ?_; (conv => whnf); refine And.intro ?_ ?_)|exact zV|fail))) <;> (try conv => whnf))); done) | ((refine ⟨[], rfl, ⟨rfl, rfl, trivial, trivial⟩, ?_, ⟨?_, trivial⟩, fun _ => ⟨?_, trivial⟩⟩ <;> ((repeat' ((try conv => whnf); (first|exact zU|refine And.intro ?_ ?_|exact fun _ _ _ _ => Eq.refl _|refine cellJ (fun _ _ => ?_)|(refine cellB ?_; (conv => whnf); refine And.intro ?_ ?_)|exact zV|fail))) <;> (try conv => whnf))); unfold ctB; (first | exact Eq.refl _ | exact decide_eq_true (by assumption) | exact decide_eq_false (by assumption) | exact (decide_eq_true (by omega)).symm | exact (decide_eq_false (by omega)).symm | exact decide_eq_true (by omega) | exact decide_eq_false (by omega)))
theorem ctB_yes {R : List (List Int)} {v : List Int} (h : ctB R v = true) : LA.insL R v = R := by
  have h1 : lix (LA.redV R v R.length) < 0 := of_decide_eq_true h
  have h2 : ¬ LA.lead (LA.redV R v R.length) < (LA.redV R v R.length).length := fun h3 => by rw [lix_yes h3] at h1; omega
  unfold LA.insL
  exact if_neg h2
theorem ctB_no {w : Nat} {R : List (List Int)} {v : List Int} (hr : LA.RedL w R) (hv : LA.VecOk w v) (h : ctB R v = false) : LA.redL (R ++ [v]) w = LA.insL R v := by
  have h1 : ¬ lix (LA.redV R v R.length) < 0 := of_decide_eq_false h
  exact LA.redL_ins hr hv (Classical.byContradiction fun h3 => h1 (by rw [lix_no h3]; omega))
theorem arg_oi {s : St} {ns : List Nm} {dp : AV → AV → Prop} {a : AV} {T : TypeId} {k : IntKind} {xs : List Int} (h : a = .oi T k xs) : argS s ns true dp a true (.ri false k xs) := by
  subst h
  exact ⟨rfl, rfl, rfl, rfl, rfl⟩
theorem ins_one {R : List (List Int)} {v : List Int} : (R ++ [v]).length = R.length + 1 := by simp
theorem ins_lo {R : List (List Int)} {v : List Int} {i : Nat} (h : i < R.length) : (R ++ [v]).getD i default = R.getD i default := by
  rw [List.getD_eq_getElem?_getD, List.getElem?_append_left h, ← List.getD_eq_getElem?_getD]
theorem ins_hi {R : List (List Int)} {v : List Int} {i : Nat} (h : R.length ≤ i) (h2 : i < R.length + 1) : (R ++ [v]).getD i default = v := by
  have : i = R.length := by omega
  subst this
  simp [List.getD_eq_getElem?_getD]
theorem sIv_fn {w : Nat} (R : List (List Int)) (v : List Int) (h : LA.RedL w R) (hw : w ≤ 40) (hv : LA.VecOk w v) : Fn Tryz.prog 164 true (.cons (BasR w R) (.cons (.ri false .i64 v) .nil)) [] (.tup (.cons (BasT w (LA.insL R v)) (.cons (.b (!ctB R v)) .nil))) [] := by
  have hl := red_len h
  have hvl := hv.1
  have hx := fun i (hi : i < R.length) => (red_ok h i hi).1
  have c1 := sFit_fn R v h hw hv
  have c2 := sCon_fn R v h hw hv
  cases hb : ctB R v with
  | true =>
    rw [hb] at c2
    have c2 := c2.tt rfl
    have c3 := sCpB_fn R h hw
    rw [ctB_yes hb]
    (refine Fn_of tysOk Tryz.func164 rfl rfl (by simp [AV.len, Tryz.f164]) ⟨?_⟩; conv => whnf)
    (repeat' first | ((with_reducible show ∃ _ : Bool, _); first | (refine ⟨_, [], _, [], _, _, c1, rfl, trivial, zW, Nx.mk ?_⟩; conv => whnf)|(refine ⟨_, [], _, [], _, _, c2, rfl, trivial, zW, Nx.mk ?_⟩; conv => whnf)|(refine ⟨_, [], _, [], _, _, c3, rfl, trivial, zW, Nx.mk ?_⟩; conv => whnf))  | (refine zK (fun hs => ?_) (fun hs => ?_) <;> ((try simp only [Ct.len] at hs); revert hs; intro _; conv => whnf)) | (refine zI (fun _ => ?_) (fun _ => ?_)<;> conv => whnf)|((first|refine zA ?_|refine zB ?_|refine zC ?_|refine zD ?_|refine zE ?_|refine zF ?_|refine zG ?_|fail); conv => whnf)|(refine zJ (fun _ => ?_) ?_<;> conv => whnf)|((first | refine condN Tryz.underlying4 (Nx.mk ?_) | refine zH ?_ | refine Nx.mk ?_); conv => whnf))
    (all_goals try first | contradiction | (exfalso; omega))
    all_goals
      refine ⟨[], rfl, ?_, ?_, ?_, fun _ => ?_⟩
      · ((try conv => whnf); refine ⟨rfl, by rfl, ?_, ?_⟩ <;> ((repeat' ((try conv => whnf); (first|exact zU|refine And.intro ?_ ?_|exact fun _ _ _ _ => Eq.refl _|refine cellJ (fun _ _ => ?_)|(refine cellB ?_; (conv => whnf); refine And.intro ?_ ?_)|exact zV|fail))) <;> (try conv => whnf)))
        all_goals first | exact .inr rfl | trace_state
      all_goals ((repeat' ((try conv => whnf); (first|exact zU|refine And.intro ?_ ?_|exact fun _ _ _ _ => Eq.refl _|refine cellJ (fun _ _ => ?_)|(refine cellB ?_; (conv => whnf); refine And.intro ?_ ?_)|exact zV|fail))) <;> (try conv => whnf))
      all_goals first | exact .inr rfl | trace_state
  | false =>
    rw [hb] at c2
    have c2 := c2.ff rfl
    have c3 := sCopy_fn R (by omega) (fun i hi => by have := hx i hi; omega)
    have c4 := sRed_fn (w := w) (R ++ [v]) (by rw [ins_one]; omega) hw (LA.app_ok h hv)
    rw [ctB_no h hv hb, ins_one] at c4
    have c4 := c4.fzR
    have hlo := fun i (hi : i < R.length) => ins_lo (v := v) hi
    have hhi := fun i (hi : R.length ≤ i) (hi2 : i < R.length + 1) => ins_hi (v := v) hi hi2
    generalize R ++ [v] = Rv at *
    (refine Fn_of tysOk Tryz.func164 rfl rfl (by simp [AV.len, Tryz.f164]) ⟨?_⟩; conv => whnf)
    (repeat' first | ((with_reducible show ∃ _ : Bool, _); first | (refine ⟨_, [], _, [], _, _, c1, rfl, trivial, zW, Nx.mk ?_⟩; conv => whnf)|(refine ⟨_, [], _, [], _, _, c2, rfl, trivial, zW, Nx.mk ?_⟩; conv => whnf)|(refine ⟨_, [], _, [], _, _, c3, rfl, trivial, zW, Nx.mk ?_⟩; conv => whnf)) | (((with_reducible show VC _ (.region _ _ true) _ _); refine VC_tree (sf := []) tysOk (by kernel_rfl) (.nd 7 0 (.nd 7 1 (.nd 7 10 (.nd 7 11 (.lf [6, 0, 1, 2, 3, 4, 5, 10, 11, 7, 8, 9, 12, 13, 14, 15]) (.nd 9 11 (.lf [6, 0, 1, 2, 3, 4, 5, 10, 7, 8, 11, 9, 12, 13, 14, 15]) (.lf [6, 0, 1, 2, 3, 4, 5, 10, 7, 8, 9, 11, 12, 13, 14, 15]))) (.nd 9 10 (.nd 9 11 (.lf [6, 0, 1, 2, 3, 4, 5, 7, 8, 10, 11, 9, 12, 13, 14, 15]) (.lf [6, 0, 1, 2, 3, 4, 5, 7, 8, 10, 9, 11, 12, 13, 14, 15])) (.lf [6, 0, 1, 2, 3, 4, 5, 7, 8, 9, 10, 11, 12, 13, 14, 15]))) (.nd 7 10 (.nd 7 11 (.nd 9 1 (.lf [6, 0, 2, 3, 4, 5, 10, 11, 7, 1, 8, 9, 12, 13, 14, 15]) (.lf [6, 0, 2, 3, 4, 5, 10, 11, 7, 8, 9, 1, 12, 13, 14, 15])) (.nd 9 1 (.nd 9 11 (.lf [6, 0, 2, 3, 4, 5, 10, 7, 1, 8, 11, 9, 12, 13, 14, 15]) (.lf [6, 0, 2, 3, 4, 5, 10, 7, 1, 8, 9, 11, 12, 13, 14, 15])) (.nd 9 11 (.lf [6, 0, 2, 3, 4, 5, 10, 7, 8, 11, 9, 1, 12, 13, 14, 15]) (.lf [6, 0, 2, 3, 4, 5, 10, 7, 8, 9, 1, 11, 12, 13, 14, 15])))) (.nd 9 1 (.nd 9 10 (.nd 9 11 (.lf [6, 0, 2, 3, 4, 5, 7, 1, 8, 10, 11, 9, 12, 13, 14, 15]) (.lf [6, 0, 2, 3, 4, 5, 7, 1, 8, 10, 9, 11, 12, 13, 14, 15])) (.lf [6, 0, 2, 3, 4, 5, 7, 1, 8, 9, 10, 11, 12, 13, 14, 15])) (.nd 9 10 (.nd 9 11 (.lf [6, 0, 2, 3, 4, 5, 7, 8, 10, 11, 9, 1, 12, 13, 14, 15]) (.lf [6, 0, 2, 3, 4, 5, 7, 8, 10, 9, 1, 11, 12, 13, 14, 15])) (.lf [6, 0, 2, 3, 4, 5, 7, 8, 9, 1, 10, 11, 12, 13, 14, 15]))))) (.nd 7 10 (.nd 7 11 (.nd 9 0 (.nd 9 1 (.lf [6, 2, 3, 4, 5, 10, 11, 7, 0, 1, 8, 9, 12, 13, 14, 15]) (.lf [6, 2, 3, 4, 5, 10, 11, 7, 0, 8, 9, 1, 12, 13, 14, 15])) (.lf [6, 2, 3, 4, 5, 10, 11, 7, 8, 9, 0, 1, 12, 13, 14, 15])) (.nd 9 0 (.nd 9 1 (.nd 9 11 (.lf [6, 2, 3, 4, 5, 10, 7, 0, 1, 8, 11, 9, 12, 13, 14, 15]) (.lf [6, 2, 3, 4, 5, 10, 7, 0, 1, 8, 9, 11, 12, 13, 14, 15])) (.nd 9 11 (.lf [6, 2, 3, 4, 5, 10, 7, 0, 8, 11, 9, 1, 12, 13, 14, 15]) (.lf [6, 2, 3, 4, 5, 10, 7, 0, 8, 9, 1, 11, 12, 13, 14, 15]))) (.nd 9 11 (.lf [6, 2, 3, 4, 5, 10, 7, 8, 11, 9, 0, 1, 12, 13, 14, 15]) (.lf [6, 2, 3, 4, 5, 10, 7, 8, 9, 0, 1, 11, 12, 13, 14, 15])))) (.nd 9 0 (.nd 9 1 (.nd 9 10 (.nd 9 11 (.lf [6, 2, 3, 4, 5, 7, 0, 1, 8, 10, 11, 9, 12, 13, 14, 15]) (.lf [6, 2, 3, 4, 5, 7, 0, 1, 8, 10, 9, 11, 12, 13, 14, 15])) (.lf [6, 2, 3, 4, 5, 7, 0, 1, 8, 9, 10, 11, 12, 13, 14, 15])) (.nd 9 10 (.nd 9 11 (.lf [6, 2, 3, 4, 5, 7, 0, 8, 10, 11, 9, 1, 12, 13, 14, 15]) (.lf [6, 2, 3, 4, 5, 7, 0, 8, 10, 9, 1, 11, 12, 13, 14, 15])) (.lf [6, 2, 3, 4, 5, 7, 0, 8, 9, 1, 10, 11, 12, 13, 14, 15]))) (.nd 9 10 (.nd 9 11 (.lf [6, 2, 3, 4, 5, 7, 8, 10, 11, 9, 0, 1, 12, 13, 14, 15]) (.lf [6, 2, 3, 4, 5, 7, 8, 10, 9, 0, 1, 11, 12, 13, 14, 15])) (.lf [6, 2, 3, 4, 5, 7, 8, 9, 0, 1, 10, 11, 12, 13, 14, 15]))))) (by kernel_rfl) ?_; with_unfolding_all refine (And.intro (Nx.mk ?_) (And.intro (Nx.mk ?_) (And.intro (Nx.mk ?_) (And.intro (Nx.mk ?_) (And.intro (Nx.mk ?_) (And.intro (Nx.mk ?_) (And.intro (Nx.mk ?_) (And.intro (Nx.mk ?_) (And.intro (Nx.mk ?_) (And.intro (Nx.mk ?_) (And.intro (Nx.mk ?_) (And.intro (Nx.mk ?_) (And.intro (Nx.mk ?_) (And.intro (Nx.mk ?_) (And.intro (Nx.mk ?_) (And.intro (Nx.mk ?_) (And.intro (Nx.mk ?_) (And.intro (Nx.mk ?_) (And.intro (Nx.mk ?_) (And.intro (Nx.mk ?_) (And.intro (Nx.mk ?_) (And.intro (Nx.mk ?_) (And.intro (Nx.mk ?_) (And.intro (Nx.mk ?_) (And.intro (Nx.mk ?_) (And.intro (Nx.mk ?_) (And.intro (Nx.mk ?_) (And.intro (Nx.mk ?_) (And.intro (Nx.mk ?_) (And.intro (Nx.mk ?_) (And.intro (Nx.mk ?_) (And.intro (Nx.mk ?_) (And.intro (Nx.mk ?_) (And.intro (Nx.mk ?_) (And.intro (Nx.mk ?_) (And.intro (Nx.mk ?_) True.intro)))))))))))))))))))))))))))))))))))) <;> conv => whnf)) | (refine condN (show R.length + 1 ≤ 1073741824 by omega) (Nx.mk ?_); conv => whnf)|(refine zK (fun hs => ?_) (fun hs => ?_) <;> ((try simp only [Ct.len] at hs); revert hs; intro _; conv => whnf)) | (refine zI (fun _ => ?_) (fun _ => ?_)<;> conv => whnf)|((first|refine zA ?_|refine zB ?_|refine zC ?_|refine zD ?_|refine zE ?_|refine zF ?_|refine zG ?_|fail); conv => whnf)|(refine zJ (fun _ => ?_) ?_<;> conv => whnf)|((first | refine condN Tryz.underlying4 (Nx.mk ?_) | refine zH ?_ | refine Nx.mk ?_); conv => whnf))
    (all_goals try first | contradiction | (exfalso; omega))
    all_goals
      refine ⟨_, [], _, [], _, _, c4, rfl, trivial, ?_, Nx.mk ?_⟩
      · ((repeat' ((try conv => whnf); (first|exact zU|refine And.intro ?_ ?_|exact fun _ _ _ _ => Eq.refl _|refine cellJ (fun _ _ => ?_)|(refine cellB ?_; (conv => whnf); refine And.intro ?_ ?_)|exact zV|fail))) <;> (try conv => whnf))
        all_goals
          rename_i i hi
          have hi : i < R.length + 1 := hi
          by_cases e : i = R.length
          · have h7 := hhi i (by omega) hi
            rw [e] at h7 ⊢
            refine arg_oi (xs := Rv.getD R.length default) (T := 3) ?_
            simp only [Ct.len, Ct.cell, Nat.beq_refl, Bool.and_true, Bool.true_and, cond_true, Blk.kill, Ct.kill, Blk.asOwn, List.nil_append, h7]
          · have e2 : i < R.length := by omega
            refine arg_oi (xs := Rv.getD i default) (T := 3) ?_
            simp only [Ct.len, Ct.cell, beq_ne e, Bool.false_and, Bool.and_false, cond_false, Ct.kill, blt_of e2, cond_true, hlo i e2]
            rfl
      conv => whnf
      (repeat' first  | (refine zK (fun hs => ?_) (fun hs => ?_) <;> ((try simp only [Ct.len] at hs); revert hs; intro _; conv => whnf)) | (refine zI (fun _ => ?_) (fun _ => ?_)<;> conv => whnf)|((first|refine zA ?_|refine zB ?_|refine zC ?_|refine zD ?_|refine zE ?_|refine zF ?_|refine zG ?_|fail); conv => whnf)|(refine zJ (fun _ => ?_) ?_<;> conv => whnf)|((first | refine condN Tryz.underlying4 (Nx.mk ?_) | refine zH ?_ | refine Nx.mk ?_); conv => whnf))
      refine ⟨[], rfl, ?_, ?_, ?_, fun _ => ?_⟩
      · ((try conv => whnf); refine ⟨rfl, by rfl, ?_, ?_⟩ <;> ((repeat' ((try conv => whnf); (first|exact zU|refine And.intro ?_ ?_|exact fun _ _ _ _ => Eq.refl _|refine cellJ (fun _ _ => ?_)|(refine cellB ?_; (conv => whnf); refine And.intro ?_ ?_)|exact zV|fail))) <;> (try conv => whnf)))
        all_goals first | exact .inr rfl | trace_state
      all_goals ((repeat' ((try conv => whnf); (first|exact zU|refine And.intro ?_ ?_|exact fun _ _ _ _ => Eq.refl _|refine cellJ (fun _ _ => ?_)|(refine cellB ?_; (conv => whnf); refine And.intro ?_ ?_)|exact zV|fail))) <;> (try conv => whnf))
      all_goals first | exact .inr rfl | trace_state
end Go.Proofs.YtbepgedckfhifaaGreat
