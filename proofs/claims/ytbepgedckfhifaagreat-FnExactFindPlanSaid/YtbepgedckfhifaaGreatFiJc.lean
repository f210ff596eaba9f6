/-
  Vectors combined, of both.
-/
import Derived.Test.YtbepgedckfhifaaGreatFiJb
import Derived.Test.YtbepgedckfhifaaGreatFiVC
namespace Go.Proofs.YtbepgedckfhifaaGreat
set_option linter.unusedVariables false
set_option linter.unusedSimpArgs false
set_option maxRecDepth 100000
set_option maxHeartbeats 4000000
attribute [local irreducible] Fn
def cmbN (vs : List (List Int)) (cs : List Int) : Nat → List Int
  | 0 => List.replicate (vs.getD 0 default).length 0
  | i + 1 => LA.addS (cmbN vs cs i) (vs.getD i default) (cs.getD i 0)
theorem cmbN_ok {w : Nat} {vs : List (List Int)} {cs : List Int} (h0 : (vs.getD 0 default).length = w) : ∀ {i : Nat}, LA.VecOk w (cmbN vs cs i) := by
  intro i
  induction i with
  | zero => show LA.VecOk w (List.replicate _ 0); rw [h0]; exact zeros_ok
  | succ i ih => exact LA.addS_ok ih.1
theorem cmbN_zero {vs : List (List Int)} {cs : List Int} : cmbN vs cs 0 = List.replicate (vs.getD 0 default).length 0 := rfl
theorem cmbN_succ {vs : List (List Int)} {cs : List Int} {i : Nat} : cmbN vs cs (i + 1) = LA.addS (cmbN vs cs i) (vs.getD i default) (cs.getD i 0) := rfl
attribute [local irreducible] cmbN LA.addS vecB
theorem iCmb_fn {w : Nat} (vs : List (List Int)) (cs : List Int) (h0 : 1 ≤ vs.length) (hn : vs.length ≤ 40) (hw : w ≤ 40) (hv : ∀ i, i < vs.length → LA.VecOk w (vs.getD i default)) (hc : LA.VecOk vs.length cs) : Fn Tryz.prog 80 true (.cons (.rs false vs.length 1 (cellsA ints_R_i64 vs)) (.cons (.ri false .i64 cs) .nil)) [] (.os (rt 16)) [(16, .row 3 (.ints .i64 (cmbN vs cs vs.length)))] := by
  have hv0 := (hv 0 (by omega)).1
  have hcl := hc.1
  have hi0 : 0 < vs.length := by omega
  (refine Fn_of tysOk Tryz.func80 rfl rfl (by simp [AV.len, Tryz.f80]) ⟨?_⟩; conv => whnf)
  (repeat' first | (refine ⟨(vs.getD 0 default).length, (vs.getD 0 default).length, rfl, rfl, Nat.le_refl _, by omega, Nx.mk ?_⟩; conv => whnf)|(refine zK (fun hs => ?_) (fun hs => ?_) <;> ((try simp only [Ct.len] at hs); revert hs; intro _; conv => whnf)) | (refine zI (fun _ => ?_) (fun _ => ?_)<;> conv => whnf)|((first|refine zA ?_|refine zB ?_|refine zC ?_|refine zD ?_|refine zE ?_|refine zF ?_|refine zG ?_|fail); conv => whnf)|(refine zJ (fun _ => ?_) ?_<;> conv => whnf)|((first | refine condN Tryz.underlying4 (Nx.mk ?_) | refine zH ?_ | refine Nx.mk ?_); conv => whnf))
  refine loopI tysOk [] (fun i : Nat => [(15, .I i)]) (fun i => [(nm 12, some (.row 3 (.ints .i64 (cmbN vs cs i))))]) (fun i => i ≤ vs.length) (fun i => vs.length - i) 0 (Nat.zero_le _) ?_ ?_
  · ((try conv => whnf); refine ⟨rfl, by rfl, ?_, ?_⟩ <;> ((repeat' ((try conv => whnf); (first|exact zU|refine And.intro ?_ ?_|exact fun _ _ _ _ => Eq.refl _|refine cellJ (fun _ _ => ?_)|(refine cellB ?_; (conv => whnf); refine And.intro ?_ ?_)|exact zV|fail))) <;> (try conv => whnf)))
    all_goals (rw [cmbN_zero]; try (with_unfolding_all rfl))
  · intro i hi
    by_cases hlt : i < vs.length
    · have hlt2 : i < cs.length := by omega
      have hk := hc.at_ hlt
      have hok := cmbN_ok (cs := cs) hv0 (i := i)
      have ca := iAddS_fn (cmbN vs cs i) (vs.getD i default) (cs.getD i 0) hok (hv i hlt) hw hk
      rw [← cmbN_succ] at ca
      (repeat' first | ((with_reducible show ∃ _ : Bool, _); first | (refine ⟨_, [rt (nm 12)], _, _, _, _, ca, rfl, zW, zW, Nx.mk ?_⟩; conv => whnf))  | (refine zK (fun hs => ?_) (fun hs => ?_) <;> ((try simp only [Ct.len] at hs); revert hs; intro _; conv => whnf)) | (refine zI (fun _ => ?_) (fun _ => ?_)<;> conv => whnf)|((first|refine zA ?_|refine zB ?_|refine zC ?_|refine zD ?_|refine zE ?_|refine zF ?_|refine zG ?_|fail); conv => whnf)|(refine zJ (fun _ => ?_) ?_<;> conv => whnf)|((first | refine condN Tryz.underlying4 (Nx.mk ?_) | refine zH ?_ | refine Nx.mk ?_); conv => whnf))
      (all_goals try first | contradiction | (exfalso; omega))
      refine ⟨i + 1, by omega, by omega, ?_⟩
      ((try conv => whnf); refine ⟨rfl, by rfl, ?_, ?_⟩ <;> ((repeat' ((try conv => whnf); (first|exact zU|refine And.intro ?_ ?_|exact fun _ _ _ _ => Eq.refl _|refine cellJ (fun _ _ => ?_)|(refine cellB ?_; (conv => whnf); refine And.intro ?_ ?_)|exact zV|fail))) <;> (try conv => whnf)))
    · obtain rfl : i = vs.length := by omega
      (repeat' first | (refine zK (fun hs => ?_) (fun hs => ?_) <;> ((try simp only [Ct.len] at hs); revert hs; intro _; conv => whnf)) | (refine zI (fun _ => ?_) (fun _ => ?_)<;> conv => whnf)|((first|refine zA ?_|refine zB ?_|refine zC ?_|refine zD ?_|refine zE ?_|refine zF ?_|refine zG ?_|fail); conv => whnf)|(refine zJ (fun _ => ?_) ?_<;> conv => whnf)|((first | refine condN Tryz.underlying4 (Nx.mk ?_) | refine zH ?_ | refine Nx.mk ?_); conv => whnf))
      (all_goals try first | contradiction | (exfalso; omega))
      refine ⟨[(16, nm 12)], rfl, ?_, ?_, ?_, fun _ => ?_⟩
      · ((try conv => whnf); refine ⟨rfl, by rfl, ?_, ?_⟩ <;> ((repeat' ((try conv => whnf); (first|exact zU|refine And.intro ?_ ?_|exact fun _ _ _ _ => Eq.refl _|refine cellJ (fun _ _ => ?_)|(refine cellB ?_; (conv => whnf); refine And.intro ?_ ?_)|exact zV|fail))) <;> (try conv => whnf)))
      all_goals ((repeat' ((try conv => whnf); (first|exact zU|refine And.intro ?_ ?_|exact fun _ _ _ _ => Eq.refl _|refine cellJ (fun _ _ => ?_)|(refine cellB ?_; (conv => whnf); refine And.intro ?_ ?_)|exact zV|fail))) <;> (try conv => whnf))
theorem sCmb_fn {w : Nat} (vs : List (List Int)) (cs : List Int) (h0 : 1 ≤ vs.length) (hn : vs.length ≤ 40) (hw : w ≤ 40) (hv : ∀ i, i < vs.length → LA.VecOk w (vs.getD i default)) (hc : LA.VecOk vs.length cs) : Fn Tryz.prog 68 true (.cons (.rs false vs.length 1 (cellsA ints_R_i64 vs)) (.cons (.ri false .i64 cs) .nil)) [] (.os (rt 16)) [(16, .row 3 (.ints .i64 (cmbN vs cs vs.length)))] := by
  have hv0 := (hv 0 (by omega)).1
  have hcl := hc.1
  have hi0 : 0 < vs.length := by omega
  have c1 := (sVec_fn cs (by omega)).tt (vecB_of hc hn)
  (refine Fn_of tysOk Tryz.func68 rfl rfl (by simp [AV.len, Tryz.f68]) ⟨?_⟩; conv => whnf)
  (repeat' first | ((with_reducible show ∃ _ : Bool, _); first | (refine ⟨_, [], _, [], _, _, c1, rfl, trivial, zW, Nx.mk ?_⟩; conv => whnf)) | (refine ⟨(vs.getD 0 default).length, (vs.getD 0 default).length, rfl, rfl, Nat.le_refl _, by omega, Nx.mk ?_⟩; conv => whnf)|(refine zK (fun hs => ?_) (fun hs => ?_) <;> ((try simp only [Ct.len] at hs); revert hs; intro _; conv => whnf)) | (refine zI (fun _ => ?_) (fun _ => ?_)<;> conv => whnf)|((first|refine zA ?_|refine zB ?_|refine zC ?_|refine zD ?_|refine zE ?_|refine zF ?_|refine zG ?_|fail); conv => whnf)|(refine zJ (fun _ => ?_) ?_<;> conv => whnf)|((first | refine condN Tryz.underlying4 (Nx.mk ?_) | refine zH ?_ | refine Nx.mk ?_); conv => whnf))
  (all_goals try first | contradiction | (exfalso; omega))
  refine loopW tysOk [nm 62] (fun i : Nat => [(5, .os (rt (nm 27))), (6, .I i), (27, .top)]) (fun i => [(nm 27, some (.row 3 (.ints .i64 (cmbN vs cs i))))]) (fun i => i ≤ vs.length) (fun i => vs.length - i) 0 (Nat.zero_le _) ?_ ?_
  · ((try conv => whnf); refine ⟨rfl, by rfl, ?_, ?_⟩ <;> ((repeat' ((try conv => whnf); (first|exact zU|refine And.intro ?_ ?_|exact fun _ _ _ _ => Eq.refl _|refine cellJ (fun _ _ => ?_)|(refine cellB ?_; (conv => whnf); refine And.intro ?_ ?_)|exact zV|fail))) <;> (try conv => whnf)))
    all_goals (rw [cmbN_zero]; try (with_unfolding_all rfl))
  · intro i hi
    dsimp only
    by_cases hlt : i < vs.length
    · have hlt2 : i < cs.length := by omega
      have hk := hc.at_ hlt
      have hvi := (hv i hlt).1
      have hok := cmbN_ok (cs := cs) hv0 (i := i)
      have c2 := (sVec_fn (vs.getD i default) (by omega)).tt (vecB_of (hv i hlt) hw)
      have ca := sAddS_fn (cmbN vs cs i) (vs.getD i default) (cs.getD i 0) hok (hv i hlt) hw hk
      rw [← cmbN_succ] at ca
      (repeat' first | ((with_reducible show ∃ _ : Bool, _); first | (refine ⟨_, [], _, [], _, _, c2, rfl, trivial, zW, Nx.mk ?_⟩; conv => whnf)|(refine ⟨_, [], _, [], _, _, ca, rfl, trivial, zW, Nx.mk ?_⟩; conv => whnf)) | ((refine VC_draw (sf := []) tysOk (by kernel_rfl) (by kernel_rfl) (Nx.mk ?_); conv => whnf)) | (refine zK (fun hs => ?_) (fun hs => ?_) <;> ((try simp only [Ct.len] at hs); revert hs; intro _; conv => whnf)) | (refine zI (fun _ => ?_) (fun _ => ?_)<;> conv => whnf)|((first|refine zA ?_|refine zB ?_|refine zC ?_|refine zD ?_|refine zE ?_|refine zF ?_|refine zG ?_|fail); conv => whnf)|(refine zJ (fun _ => ?_) ?_<;> conv => whnf)|((first | refine condN Tryz.underlying4 (Nx.mk ?_) | refine zH ?_ | refine Nx.mk ?_); conv => whnf))
      (all_goals try first | contradiction | (exfalso; omega))
      refine ⟨i + 1, by omega, by omega, [(nm 62, nm 27)], rfl, ?_⟩
      ((try conv => whnf); refine ⟨rfl, by rfl, ?_, ?_⟩ <;> ((repeat' ((try conv => whnf); (first|exact zU|refine And.intro ?_ ?_|exact fun _ _ _ _ => Eq.refl _|refine cellJ (fun _ _ => ?_)|(refine cellB ?_; (conv => whnf); refine And.intro ?_ ?_)|exact zV|fail))) <;> (try conv => whnf)))
    · obtain rfl : i = vs.length := by omega
      (repeat' first | (refine zK (fun hs => ?_) (fun hs => ?_) <;> ((try simp only [Ct.len] at hs); revert hs; intro _; conv => whnf)) | (refine zI (fun _ => ?_) (fun _ => ?_)<;> conv => whnf)|((first|refine zA ?_|refine zB ?_|refine zC ?_|refine zD ?_|refine zE ?_|refine zF ?_|refine zG ?_|fail); conv => whnf)|(refine zJ (fun _ => ?_) ?_<;> conv => whnf)|((first | refine condN Tryz.underlying4 (Nx.mk ?_) | refine zH ?_ | refine Nx.mk ?_); conv => whnf))
      (all_goals try first | contradiction | (exfalso; omega))
      refine ⟨[(16, nm 27)], rfl, ?_, ?_, ?_, fun _ => ?_⟩
      · ((try conv => whnf); refine ⟨rfl, by rfl, ?_, ?_⟩ <;> ((repeat' ((try conv => whnf); (first|exact zU|refine And.intro ?_ ?_|exact fun _ _ _ _ => Eq.refl _|refine cellJ (fun _ _ => ?_)|(refine cellB ?_; (conv => whnf); refine And.intro ?_ ?_)|exact zV|fail))) <;> (try conv => whnf)))
      all_goals ((repeat' ((try conv => whnf); (first|exact zU|refine And.intro ?_ ?_|exact fun _ _ _ _ => Eq.refl _|refine cellJ (fun _ _ => ?_)|(refine cellB ?_; (conv => whnf); refine And.intro ?_ ?_)|exact zV|fail))) <;> (try conv => whnf))
theorem sCmb0_fn (vs : List (List Int)) (cs : List Int) (h : vs.length = 0 ∨ vs.length ≠ cs.length) (hn : vs.length ≤ 1048576) (hc : cs.length ≤ 1048576) : Fn Tryz.prog 68 true (.cons (.rs false vs.length 1 (cellsA ints_R_i64 vs)) (.cons (.ri false .i64 cs) .nil)) [] (.os (rt 16)) [(16, .row 3 (.ints .i64 []))] := by
  (refine Fn_of tysOk Tryz.func68 rfl rfl (by simp [AV.len, Tryz.f68]) ⟨?_⟩; conv => whnf)
  (repeat' first | ((with_reducible show ∃ _ : Bool, _); first | (refine ⟨_, [], _, [], _, _, sVec_fn cs hc, rfl, trivial, zW, Nx.mk ?_⟩; conv => whnf))  | (refine zK (fun hs => ?_) (fun hs => ?_) <;> ((try simp only [Ct.len] at hs); revert hs; intro _; conv => whnf)) | (refine zI (fun _ => ?_) (fun _ => ?_)<;> conv => whnf)|((first|refine zA ?_|refine zB ?_|refine zC ?_|refine zD ?_|refine zE ?_|refine zF ?_|refine zG ?_|fail); conv => whnf)|(refine zJ (fun _ => ?_) ?_<;> conv => whnf)|((first | refine condN Tryz.underlying4 (Nx.mk ?_) | refine zH ?_ | refine Nx.mk ?_); conv => whnf))
  all_goals try (exfalso; omega)
  all_goals
    refine ⟨[(16, nm 22)], rfl, ?_, ?_, ?_, fun _ => ?_⟩
    · ((try conv => whnf); refine ⟨rfl, by rfl, ?_, ?_⟩ <;> ((repeat' ((try conv => whnf); (first|exact zU|refine And.intro ?_ ?_|exact fun _ _ _ _ => Eq.refl _|refine cellJ (fun _ _ => ?_)|(refine cellB ?_; (conv => whnf); refine And.intro ?_ ?_)|exact zV|fail))) <;> (try conv => whnf)))
    all_goals ((repeat' ((try conv => whnf); (first|exact zU|refine And.intro ?_ ?_|exact fun _ _ _ _ => Eq.refl _|refine cellJ (fun _ _ => ?_)|(refine cellB ?_; (conv => whnf); refine And.intro ?_ ?_)|exact zV|fail))) <;> (try conv => whnf))
end Go.Proofs.YtbepgedckfhifaaGreat
