/-
  Plans marked, and held.
-/
import Derived.Test.YtbepgedckfhifaaGreatFiGb
namespace Go.Proofs.YtbepgedckfhifaaGreat
set_option linter.unusedVariables false
set_option linter.unusedSimpArgs false
set_option maxRecDepth 100000
set_option maxHeartbeats 4000000
attribute [local irreducible] Fn
theorem psum_mono {X : Type} [Inhabited X] {f g : X → Nat} (h : ∀ x, f x ≤ g x) {xs : List X} : ∀ {i : Nat}, i ≤ xs.length → psum f xs i ≤ psum g xs i := by
  intro i
  induction i with
  | zero => intro _; simp [psum]
  | succ i ih =>
    intro hi
    rw [psum_succ (by omega), psum_succ (by omega)]
    have := ih (by omega)
    have := h (xs.getD i default)
    omega
abbrev lnI (x : List Int) : Nat := x.length
def mkI (k : Int) (xs : List (List Int)) (i : Nat) : List (List Int) := (List.range xs.length).map fun j => if j < i then marks (k + (psum lnI xs j : Nat)) (xs.getD j default).length else xs.getD j default
theorem mkI_len {k : Int} {xs : List (List Int)} {i : Nat} : (mkI k xs i).length = xs.length := by simp [mkI]
theorem mkI_at {k : Int} {xs : List (List Int)} {i j : Nat} (h : j < xs.length) : (mkI k xs i).getD j default = if j < i then marks (k + (psum lnI xs j : Nat)) (xs.getD j default).length else xs.getD j default := by
  simp only [mkI, List.getD_eq_getElem?_getD, List.getElem?_map, List.getElem?_range h, Option.map_some, Option.getD_some]
theorem mkI_old {k : Int} {xs : List (List Int)} {i j : Nat} (h : j < xs.length) (h2 : i ≤ j) : (mkI k xs i).getD j default = xs.getD j default := by rw [mkI_at h, if_neg (by omega)]
theorem mkI_new {k : Int} {xs : List (List Int)} {i j : Nat} (h : j < xs.length) (h2 : j < i) : (mkI k xs i).getD j default = marks (k + (psum lnI xs j : Nat)) (xs.getD j default).length := by rw [mkI_at h, if_pos h2]
theorem mkI_ne {k : Int} {xs : List (List Int)} {i j : Nat} (h : j < xs.length) (h2 : j ≠ i) : (mkI k xs (i + 1)).getD j default = (mkI k xs i).getD j default := by
  rw [mkI_at h, mkI_at h]
  by_cases h1 : j < i
  · rw [if_pos h1, if_pos (by omega)]
  · rw [if_neg h1, if_neg (by omega)]
theorem szI_eq (xs : List (List Int)) : sz_IntSS xs = xs.length + psum lnI xs xs.length := rfl
attribute [local irreducible] mkI
theorem markIntSS_fn (xs : List (List Int)) (k : Int) (h0 : 0 ≤ k) (h1 : k ≤ 16777216) (h : sz_IntSS xs ≤ 1048576) : Fn Tryz.prog 89 true (.cons (.os (rt 0)) (.cons (.I k) .nil)) [(0, .row 22 (.tab xs.length 1 (cellsA ints_O_i64 xs)))] (.I (k + (psum lnI xs xs.length : Nat))) [(0, .row 22 (.tab xs.length 1 (cellsA ints_O_i64 (mkI k xs xs.length))))] := by
  rw [szI_eq] at h
  (refine Fn_of tysOk Tryz.func89 rfl rfl (by simp [AV.len, Tryz.f89]) ⟨?_⟩; conv => whnf)
  refine loopI tysOk [] (fun i : Nat => [(5, .I i), (1, .I (k + (psum lnI xs i : Nat)))]) (fun i => [(0, some (.row 22 (.tab xs.length 1 (cellsA ints_O_i64 (mkI k xs i)))))]) (fun i => i ≤ xs.length) (fun i => xs.length - i) 0 (Nat.zero_le _) ?_ ?_
  · ((try conv => whnf); refine ⟨rfl, by rfl, ?_, ?_⟩ <;> ((repeat' ((try conv => whnf); (first|exact zU|refine And.intro ?_ ?_|exact fun _ _ _ _ => Eq.refl _|refine cellJ (fun _ _ => ?_)|(refine cellB ?_; (conv => whnf); refine And.intro ?_ ?_)|exact zV|fail))) <;> (try conv => whnf)))
    · simp [psum]
    all_goals (rw [mkI_old (by assumption) (by omega)])
  · intro i hi
    have hq := psum_le (sz := lnI) (xs := xs) (i := i) (j := xs.length) (by omega) (Nat.le_refl _)
    by_cases hi' : i < xs.length
    · have hp : psum lnI xs (i + 1) = psum lnI xs i + (xs.getD i default).length := psum_succ hi'
      have hq2 := psum_le (sz := lnI) (xs := xs) (i := i + 1) (j := xs.length) (by omega) (Nat.le_refl _)
      have ho := mkI_old (k := k) (i := i) hi' (Nat.le_refl _)
      have hn := mkI_new (k := k) (i := i + 1) hi' (by omega)
      have hm := markIntS_fn ((mkI k xs i).getD i default) (k + (psum lnI xs i : Nat)) (by omega) (by omega) (by rw [ho]; omega)
      rw [show ((mkI k xs i).getD i default).length = (xs.getD i default).length by rw [ho]] at hm
      (repeat' first | (refine zK (fun hs => ?_) (fun hs => ?_) <;> ((try simp only [Ct.len] at hs); revert hs; intro _; conv => whnf)) | (refine zI (fun _ => ?_) (fun _ => ?_)<;> conv => whnf)|((first|refine zA ?_|refine zB ?_|refine zC ?_|refine zD ?_|refine zE ?_|refine zF ?_|refine zG ?_|fail); conv => whnf)|(refine zJ (fun _ => ?_) ?_<;> conv => whnf)|((first | refine condN Tryz.underlying4 (Nx.mk ?_) | refine zH ?_ | refine Nx.mk ?_); conv => whnf))
      refine ⟨_, [(rt 0).kid i 0], _, _, _, _, hm, rfl, ?_, ?_, Nx.mk ?_⟩
      · conv => whnf
        refine ⟨rfl, ⟨_, at_kid (N := rt 0) ⟨_, Eq.refl _, Eq.refl _⟩ hi' (Nat.le_of_ble_eq_true (Eq.refl true)) (Eq.refl _)⟩, ?_, trivial⟩
        ((repeat' ((try conv => whnf); (first|exact zU|refine And.intro ?_ ?_|exact fun _ _ _ _ => Eq.refl _|refine cellJ (fun _ _ => ?_)|(refine cellB ?_; (conv => whnf); refine And.intro ?_ ?_)|exact zV|fail))) <;> (try conv => whnf))
      · ((repeat' ((try conv => whnf); (first|exact zU|refine And.intro ?_ ?_|exact fun _ _ _ _ => Eq.refl _|refine cellJ (fun _ _ => ?_)|(refine cellB ?_; (conv => whnf); refine And.intro ?_ ?_)|exact zV|fail))) <;> (try conv => whnf))
      conv => whnf
      (repeat' first | (refine zK (fun hs => ?_) (fun hs => ?_) <;> ((try simp only [Ct.len] at hs); revert hs; intro _; conv => whnf)) | (refine zI (fun _ => ?_) (fun _ => ?_)<;> conv => whnf)|((first|refine zA ?_|refine zB ?_|refine zC ?_|refine zD ?_|refine zE ?_|refine zF ?_|refine zG ?_|fail); conv => whnf)|(refine zJ (fun _ => ?_) ?_<;> conv => whnf)|((first | refine condN Tryz.underlying4 (Nx.mk ?_) | refine zH ?_ | refine Nx.mk ?_); conv => whnf))
      (all_goals try first | contradiction | (exfalso; omega))
      refine ⟨i + 1, by omega, by omega, ?_⟩
      ((try conv => whnf); refine ⟨rfl, by rfl, ?_, ?_⟩ <;> ((repeat' ((try conv => whnf); (first|exact zU|refine And.intro ?_ ?_|exact fun _ _ _ _ => Eq.refl _|refine cellJ (fun _ _ => ?_)|(refine cellB ?_; (conv => whnf); refine And.intro ?_ ?_)|exact zV|fail))) <;> (try conv => whnf)))
      · omega
      rename_i j hj
      have hj : j < xs.length := hj
      by_cases e : j = i
      · subst e
        simp only [Nat.beq_refl, cellsA, hn]
        ((repeat' ((try conv => whnf); (first|exact zU|refine And.intro ?_ ?_|exact fun _ _ _ _ => Eq.refl _|refine cellJ (fun _ _ => ?_)|(refine cellB ?_; (conv => whnf); refine And.intro ?_ ?_)|exact zV|fail))) <;> (try conv => whnf))
      · simp only [beq_ne e, cellsA, mkI_ne hj e, Ct.kill, Ct.cell, Bool.and_false, Bool.false_and, cond_false]
        ((repeat' ((try conv => whnf); (first|exact zU|refine And.intro ?_ ?_|exact fun _ _ _ _ => Eq.refl _|refine cellJ (fun _ _ => ?_)|(refine cellB ?_; (conv => whnf); refine And.intro ?_ ?_)|exact zV|fail))) <;> (try conv => whnf))
    · have e : i = xs.length := by omega
      subst e
      (repeat' first | (refine zK (fun hs => ?_) (fun hs => ?_) <;> ((try simp only [Ct.len] at hs); revert hs; intro _; conv => whnf)) | (refine zI (fun _ => ?_) (fun _ => ?_)<;> conv => whnf)|((first|refine zA ?_|refine zB ?_|refine zC ?_|refine zD ?_|refine zE ?_|refine zF ?_|refine zG ?_|fail); conv => whnf)|(refine zJ (fun _ => ?_) ?_<;> conv => whnf)|((first | refine condN Tryz.underlying4 (Nx.mk ?_) | refine zH ?_ | refine Nx.mk ?_); conv => whnf))
      (all_goals try first | contradiction | (exfalso; omega))
      refine ⟨[], rfl, ?_, ?_, ?_, fun _ => ?_⟩
      · ((try conv => whnf); refine ⟨rfl, by rfl, ?_, ?_⟩ <;> ((repeat' ((try conv => whnf); (first|exact zU|refine And.intro ?_ ?_|exact fun _ _ _ _ => Eq.refl _|refine cellJ (fun _ _ => ?_)|(refine cellB ?_; (conv => whnf); refine And.intro ?_ ?_)|exact zV|fail))) <;> (try conv => whnf)))
      all_goals ((repeat' ((try conv => whnf); (first|exact zU|refine And.intro ?_ ?_|exact fun _ _ _ _ => Eq.refl _|refine cellJ (fun _ _ => ?_)|(refine cellB ?_; (conv => whnf); refine And.intro ?_ ?_)|exact zV|fail))) <;> (try conv => whnf))
theorem heldIntSS_fn (xs : List (List Int)) (k : Int) (h0 : 0 ≤ k) (h1 : k ≤ 16777216) (h : sz_IntSS xs ≤ 1048576) : Fn Tryz.prog 90 true (.cons (.rs false xs.length 1 (cellsA ints_R_i64 (mkI k xs xs.length))) (.cons (.I k) .nil)) [] (.I (k + (psum lnI xs xs.length : Nat))) [] := by
  rw [szI_eq] at h
  (refine Fn_of tysOk Tryz.func90 rfl rfl (by simp [AV.len, Tryz.f90]) ⟨?_⟩; conv => whnf)
  refine loopI tysOk [] (fun i : Nat => [(5, .I i), (1, .I (k + (psum lnI xs i : Nat)))]) (fun i => []) (fun i => i ≤ xs.length) (fun i => xs.length - i) 0 (Nat.zero_le _) ?_ ?_
  · ((try conv => whnf); refine ⟨rfl, by rfl, ?_, ?_⟩ <;> ((repeat' ((try conv => whnf); (first|exact zU|refine And.intro ?_ ?_|exact fun _ _ _ _ => Eq.refl _|refine cellJ (fun _ _ => ?_)|(refine cellB ?_; (conv => whnf); refine And.intro ?_ ?_)|exact zV|fail))) <;> (try conv => whnf)))
    simp [psum]
  intro i hi
  have hq := psum_le (sz := lnI) (xs := xs) (i := i) (j := xs.length) (by omega) (Nat.le_refl _)
  by_cases hlt : i < xs.length
  · have hp : psum lnI xs (i + 1) = psum lnI xs i + (xs.getD i default).length := psum_succ hlt
    have hq2 := psum_le (sz := lnI) (xs := xs) (i := i + 1) (j := xs.length) (by omega) (Nat.le_refl _)
    have hn := mkI_new (k := k) (i := xs.length) hlt (by omega)
    have hc := heldIntS_fn (k + (psum lnI xs i : Nat)) (xs.getD i default).length (by omega) (by omega) (by omega)
    rw [← hn] at hc
    (repeat' first | ((with_reducible show ∃ _ : Bool, _); first | (refine ⟨_, [], _, [], _, _, hc, rfl, trivial, zW, Nx.mk ?_⟩; conv => whnf))  | (refine zK (fun hs => ?_) (fun hs => ?_) <;> ((try simp only [Ct.len] at hs); revert hs; intro _; conv => whnf)) | (refine zI (fun _ => ?_) (fun _ => ?_)<;> conv => whnf)|((first|refine zA ?_|refine zB ?_|refine zC ?_|refine zD ?_|refine zE ?_|refine zF ?_|refine zG ?_|fail); conv => whnf)|(refine zJ (fun _ => ?_) ?_<;> conv => whnf)|((first | refine condN Tryz.underlying4 (Nx.mk ?_) | refine zH ?_ | refine Nx.mk ?_); conv => whnf))
    (all_goals try first | contradiction | (exfalso; omega))
    refine ⟨i + 1, by omega, by omega, ?_⟩
    ((try conv => whnf); refine ⟨rfl, by rfl, ?_, ?_⟩ <;> ((repeat' ((try conv => whnf); (first|exact zU|refine And.intro ?_ ?_|exact fun _ _ _ _ => Eq.refl _|refine cellJ (fun _ _ => ?_)|(refine cellB ?_; (conv => whnf); refine And.intro ?_ ?_)|exact zV|fail))) <;> (try conv => whnf)))
    all_goals omega
  · obtain rfl : i = xs.length := by omega
    (repeat' first | (refine zK (fun hs => ?_) (fun hs => ?_) <;> ((try simp only [Ct.len] at hs); revert hs; intro _; conv => whnf)) | (refine zI (fun _ => ?_) (fun _ => ?_)<;> conv => whnf)|((first|refine zA ?_|refine zB ?_|refine zC ?_|refine zD ?_|refine zE ?_|refine zF ?_|refine zG ?_|fail); conv => whnf)|(refine zJ (fun _ => ?_) ?_<;> conv => whnf)|((first | refine condN Tryz.underlying4 (Nx.mk ?_) | refine zH ?_ | refine Nx.mk ?_); conv => whnf))
    (all_goals try first | contradiction | (exfalso; omega))
    all_goals (refine ⟨[], rfl, ⟨rfl, rfl, trivial, trivial⟩, ?_, ⟨?_, trivial⟩, fun _ => ⟨?_, trivial⟩⟩ <;> ((repeat' ((try conv => whnf); (first|exact zU|refine And.intro ?_ ?_|exact fun _ _ _ _ => Eq.refl _|refine cellJ (fun _ _ => ?_)|(refine cellB ?_; (conv => whnf); refine And.intro ?_ ?_)|exact zV|fail))) <;> (try conv => whnf)))
def cE (x : EdgePlan_T) : Nat := psum lnI x.1 x.1.length
theorem cE_le (x : EdgePlan_T) : cE x ≤ sz_EdgePlan x := by
  have : sz_EdgePlan x = x.1.length + psum lnI x.1 x.1.length := rfl
  unfold cE
  omega
def mkE2 (k : Int) (xs : EdgePlanS_T) (i : Nat) : EdgePlanS_T := (List.range xs.length).map fun j => if j < i then (mkI (k + (psum cE xs j : Nat)) (xs.getD j default).1 (xs.getD j default).1.length, ()) else xs.getD j default
theorem mkE2_at {k : Int} {xs : EdgePlanS_T} {i j : Nat} (h : j < xs.length) : (mkE2 k xs i).getD j default = if j < i then (mkI (k + (psum cE xs j : Nat)) (xs.getD j default).1 (xs.getD j default).1.length, ()) else xs.getD j default := by
  simp only [mkE2, List.getD_eq_getElem?_getD, List.getElem?_map, List.getElem?_range h, Option.map_some, Option.getD_some]
theorem mkE2_old {k : Int} {xs : EdgePlanS_T} {i j : Nat} (h : j < xs.length) (h2 : i ≤ j) : (mkE2 k xs i).getD j default = xs.getD j default := by rw [mkE2_at h, if_neg (by omega)]
theorem mkE2_new {k : Int} {xs : EdgePlanS_T} {i j : Nat} (h : j < xs.length) (h2 : j < i) : (mkE2 k xs i).getD j default = (mkI (k + (psum cE xs j : Nat)) (xs.getD j default).1 (xs.getD j default).1.length, ()) := by rw [mkE2_at h, if_pos h2]
theorem mkE2_ne {k : Int} {xs : EdgePlanS_T} {i j : Nat} (h : j < xs.length) (h2 : j ≠ i) : (mkE2 k xs (i + 1)).getD j default = (mkE2 k xs i).getD j default := by
  rw [mkE2_at h, mkE2_at h]
  by_cases h1 : j < i
  · rw [if_pos h1, if_pos (by omega)]
  · rw [if_neg h1, if_neg (by omega)]
theorem szE_eq (xs : EdgePlanS_T) : sz_EdgePlanS xs = xs.length + psum sz_EdgePlan xs xs.length := rfl
theorem cE_tot {xs : EdgePlanS_T} (h : sz_EdgePlanS xs ≤ 1048576) : psum cE xs xs.length + xs.length ≤ 1048576 := by
  rw [szE_eq] at h
  have := psum_mono cE_le (xs := xs) (i := xs.length) (Nat.le_refl _)
  omega
attribute [local irreducible] mkE2 cE
theorem markEdgePlanS_fn (xs : EdgePlanS_T) (k : Int) (h0 : 0 ≤ k) (h1 : k ≤ 4194304) (h : sz_EdgePlanS xs ≤ 1048576) : Fn Tryz.prog 50 true (.cons (.os (rt 0)) (.cons (.I k) .nil)) [(0, .row 107 (.tab xs.length 1 (cellsA EdgePlan_O xs)))] (.I (k + (psum cE xs xs.length : Nat))) [(0, .row 107 (.tab xs.length 1 (cellsA EdgePlan_O (mkE2 k xs xs.length))))] := by
  have hct := cE_tot h
  (refine Fn_of tysOk Tryz.func50 rfl rfl (by simp [AV.len, Tryz.f50]) ⟨?_⟩; conv => whnf)
  refine loopI tysOk [] (fun i : Nat => [(5, .I i), (1, .I (k + (psum cE xs i : Nat)))]) (fun i => [(0, some (.row 107 (.tab xs.length 1 (cellsA EdgePlan_O (mkE2 k xs i)))))]) (fun i => i ≤ xs.length) (fun i => xs.length - i) 0 (Nat.zero_le _) ?_ ?_
  · ((try conv => whnf); refine ⟨rfl, by rfl, ?_, ?_⟩ <;> ((repeat' ((try conv => whnf); (first|exact zU|refine And.intro ?_ ?_|exact fun _ _ _ _ => Eq.refl _|refine cellJ (fun _ _ => ?_)|(refine cellB ?_; (conv => whnf); refine And.intro ?_ ?_)|exact zV|fail))) <;> (try conv => whnf)))
    · simp [psum]
    all_goals (rw [mkE2_old (by assumption) (by omega)]; try ((repeat' ((try conv => whnf); (first|exact zU|refine And.intro ?_ ?_|exact fun _ _ _ _ => Eq.refl _|refine cellJ (fun _ _ => ?_)|(refine cellB ?_; (conv => whnf); refine And.intro ?_ ?_)|exact zV|fail))) <;> (try conv => whnf)))
  · intro i hi
    have hq := psum_le (sz := cE) (xs := xs) (i := i) (j := xs.length) (by omega) (Nat.le_refl _)
    by_cases hi' : i < xs.length
    · have hp : psum cE xs (i + 1) = psum cE xs i + cE (xs.getD i default) := psum_succ hi'
      have hq2 := psum_le (sz := cE) (xs := xs) (i := i + 1) (j := xs.length) (by omega) (Nat.le_refl _)
      have ho := mkE2_old (k := k) (i := i) hi' (Nat.le_refl _)
      have hn := mkE2_new (k := k) (i := i + 1) hi' (by omega)
      have hsz : sz_IntSS (xs.getD i default).1 ≤ 1048576 := Nat.le_trans (tot_at (sz := sz_EdgePlan) hi') h
      have hm := markIntSS_fn (xs.getD i default).1 (k + (psum cE xs i : Nat)) (by omega) (by omega) hsz
      have hce : psum lnI (xs.getD i default).1 (xs.getD i default).1.length = cE (xs.getD i default) := by with_unfolding_all rfl
      rw [hce] at hm
      rw [show (xs.getD i default).1.length = ((mkE2 k xs i).getD i default).1.length by rw [ho], show (xs.getD i default).1 = ((mkE2 k xs i).getD i default).1 by rw [ho]] at hm
      (repeat' first | (refine zK (fun hs => ?_) (fun hs => ?_) <;> ((try simp only [Ct.len] at hs); revert hs; intro _; conv => whnf)) | (refine zI (fun _ => ?_) (fun _ => ?_)<;> conv => whnf)|((first|refine zA ?_|refine zB ?_|refine zC ?_|refine zD ?_|refine zE ?_|refine zF ?_|refine zG ?_|fail); conv => whnf)|(refine zJ (fun _ => ?_) ?_<;> conv => whnf)|((first | refine condN Tryz.underlying4 (Nx.mk ?_) | refine zH ?_ | refine Nx.mk ?_); conv => whnf))
      (all_goals try first | contradiction | (exfalso; omega))
      refine ⟨_, [(rt 0).kid i 0], _, _, _, _, hm, rfl, ?_, ?_, Nx.mk ?_⟩
      · conv => whnf
        refine ⟨rfl, ⟨_, at_kid (N := rt 0) ⟨_, Eq.refl _, Eq.refl _⟩ hi' (Nat.le_of_ble_eq_true (Eq.refl true)) (Eq.refl _)⟩, ?_, trivial⟩
        ((repeat' ((try conv => whnf); (first|exact zU|refine And.intro ?_ ?_|exact fun _ _ _ _ => Eq.refl _|refine cellJ (fun _ _ => ?_)|(refine cellB ?_; (conv => whnf); refine And.intro ?_ ?_)|exact zV|fail))) <;> (try conv => whnf))
      · ((repeat' ((try conv => whnf); (first|exact zU|refine And.intro ?_ ?_|exact fun _ _ _ _ => Eq.refl _|refine cellJ (fun _ _ => ?_)|(refine cellB ?_; (conv => whnf); refine And.intro ?_ ?_)|exact zV|fail))) <;> (try conv => whnf))
      conv => whnf
      (repeat' first | (refine zK (fun hs => ?_) (fun hs => ?_) <;> ((try simp only [Ct.len] at hs); revert hs; intro _; conv => whnf)) | (refine zI (fun _ => ?_) (fun _ => ?_)<;> conv => whnf)|((first|refine zA ?_|refine zB ?_|refine zC ?_|refine zD ?_|refine zE ?_|refine zF ?_|refine zG ?_|fail); conv => whnf)|(refine zJ (fun _ => ?_) ?_<;> conv => whnf)|((first | refine condN Tryz.underlying4 (Nx.mk ?_) | refine zH ?_ | refine Nx.mk ?_); conv => whnf))
      (all_goals try first | contradiction | (exfalso; omega))
      refine ⟨i + 1, by omega, by omega, ?_⟩
      ((try conv => whnf); refine ⟨rfl, by rfl, ?_, ?_⟩ <;> ((repeat' ((try conv => whnf); (first|exact zU|refine And.intro ?_ ?_|exact fun _ _ _ _ => Eq.refl _|refine cellJ (fun _ _ => ?_)|(refine cellB ?_; (conv => whnf); refine And.intro ?_ ?_)|exact zV|fail))) <;> (try conv => whnf)))
      · omega
      all_goals
        rename_i j hj
        have hj : j < xs.length := hj
        by_cases e : j = i
        · subst e
          simp only [Nat.beq_refl, cellsA, hn, ho, mkI_len]
          ((repeat' ((try conv => whnf); (first|exact zU|refine And.intro ?_ ?_|exact fun _ _ _ _ => Eq.refl _|refine cellJ (fun _ _ => ?_)|(refine cellB ?_; (conv => whnf); refine And.intro ?_ ?_)|exact zV|fail))) <;> (try conv => whnf))
          all_goals (try exact mkI_len.symm)
        · simp only [beq_ne e, cellsA, mkE2_ne hj e, Ct.kill, Ct.cell, Bool.and_false, Bool.false_and, cond_false]
          ((repeat' ((try conv => whnf); (first|exact zU|refine And.intro ?_ ?_|exact fun _ _ _ _ => Eq.refl _|refine cellJ (fun _ _ => ?_)|(refine cellB ?_; (conv => whnf); refine And.intro ?_ ?_)|exact zV|fail))) <;> (try conv => whnf))
    · have e : i = xs.length := by omega
      subst e
      (repeat' first | (refine zK (fun hs => ?_) (fun hs => ?_) <;> ((try simp only [Ct.len] at hs); revert hs; intro _; conv => whnf)) | (refine zI (fun _ => ?_) (fun _ => ?_)<;> conv => whnf)|((first|refine zA ?_|refine zB ?_|refine zC ?_|refine zD ?_|refine zE ?_|refine zF ?_|refine zG ?_|fail); conv => whnf)|(refine zJ (fun _ => ?_) ?_<;> conv => whnf)|((first | refine condN Tryz.underlying4 (Nx.mk ?_) | refine zH ?_ | refine Nx.mk ?_); conv => whnf))
      (all_goals try first | contradiction | (exfalso; omega))
      refine ⟨[], rfl, ?_, ?_, ?_, fun _ => ?_⟩
      · ((try conv => whnf); refine ⟨rfl, by rfl, ?_, ?_⟩ <;> ((repeat' ((try conv => whnf); (first|exact zU|refine And.intro ?_ ?_|exact fun _ _ _ _ => Eq.refl _|refine cellJ (fun _ _ => ?_)|(refine cellB ?_; (conv => whnf); refine And.intro ?_ ?_)|exact zV|fail))) <;> (try conv => whnf)))
      all_goals ((repeat' ((try conv => whnf); (first|exact zU|refine And.intro ?_ ?_|exact fun _ _ _ _ => Eq.refl _|refine cellJ (fun _ _ => ?_)|(refine cellB ?_; (conv => whnf); refine And.intro ?_ ?_)|exact zV|fail))) <;> (try conv => whnf))
theorem heldEdgePlanS_fn (xs : EdgePlanS_T) (k : Int) (h0 : 0 ≤ k) (h1 : k ≤ 4194304) (h : sz_EdgePlanS xs ≤ 1048576) : Fn Tryz.prog 51 true (.cons (.rs false xs.length 1 (cellsA EdgePlan_R (mkE2 k xs xs.length))) (.cons (.I k) .nil)) [] (.I (k + (psum cE xs xs.length : Nat))) [] := by
  have hct := cE_tot h
  (refine Fn_of tysOk Tryz.func51 rfl rfl (by simp [AV.len, Tryz.f51]) ⟨?_⟩; conv => whnf)
  refine loopI tysOk [] (fun i : Nat => [(5, .I i), (1, .I (k + (psum cE xs i : Nat)))]) (fun i => []) (fun i => i ≤ xs.length) (fun i => xs.length - i) 0 (Nat.zero_le _) ?_ ?_
  · ((try conv => whnf); refine ⟨rfl, by rfl, ?_, ?_⟩ <;> ((repeat' ((try conv => whnf); (first|exact zU|refine And.intro ?_ ?_|exact fun _ _ _ _ => Eq.refl _|refine cellJ (fun _ _ => ?_)|(refine cellB ?_; (conv => whnf); refine And.intro ?_ ?_)|exact zV|fail))) <;> (try conv => whnf)))
    simp [psum]
  intro i hi
  have hq := psum_le (sz := cE) (xs := xs) (i := i) (j := xs.length) (by omega) (Nat.le_refl _)
  by_cases hlt : i < xs.length
  · have hp : psum cE xs (i + 1) = psum cE xs i + cE (xs.getD i default) := psum_succ hlt
    have hq2 := psum_le (sz := cE) (xs := xs) (i := i + 1) (j := xs.length) (by omega) (Nat.le_refl _)
    have hn := mkE2_new (k := k) (i := xs.length) hlt (by omega)
    have hsz : sz_IntSS (xs.getD i default).1 ≤ 1048576 := Nat.le_trans (tot_at (sz := sz_EdgePlan) hlt) h
    have hc := heldIntSS_fn (xs.getD i default).1 (k + (psum cE xs i : Nat)) (by omega) (by omega) hsz
    have hce : psum lnI (xs.getD i default).1 (xs.getD i default).1.length = cE (xs.getD i default) := by with_unfolding_all rfl
    rw [hce] at hc
    have hl : ((mkE2 k xs xs.length).getD i default).1.length = (xs.getD i default).1.length := by rw [hn]; exact mkI_len
    have hl2 : ((mkE2 k xs xs.length).getD i default).1 = mkI (k + (psum cE xs i : Nat)) (xs.getD i default).1 (xs.getD i default).1.length := by rw [hn]
    rw [← hl2, ← hl] at hc
    (repeat' first | ((with_reducible show ∃ _ : Bool, _); first | (refine ⟨_, [], _, [], _, _, hc, rfl, trivial, zW, Nx.mk ?_⟩; conv => whnf))  | (refine zK (fun hs => ?_) (fun hs => ?_) <;> ((try simp only [Ct.len] at hs); revert hs; intro _; conv => whnf)) | (refine zI (fun _ => ?_) (fun _ => ?_)<;> conv => whnf)|((first|refine zA ?_|refine zB ?_|refine zC ?_|refine zD ?_|refine zE ?_|refine zF ?_|refine zG ?_|fail); conv => whnf)|(refine zJ (fun _ => ?_) ?_<;> conv => whnf)|((first | refine condN Tryz.underlying4 (Nx.mk ?_) | refine zH ?_ | refine Nx.mk ?_); conv => whnf))
    (all_goals try first | contradiction | (exfalso; omega))
    refine ⟨i + 1, by omega, by omega, ?_⟩
    ((try conv => whnf); refine ⟨rfl, by rfl, ?_, ?_⟩ <;> ((repeat' ((try conv => whnf); (first|exact zU|refine And.intro ?_ ?_|exact fun _ _ _ _ => Eq.refl _|refine cellJ (fun _ _ => ?_)|(refine cellB ?_; (conv => whnf); refine And.intro ?_ ?_)|exact zV|fail))) <;> (try conv => whnf)))
    all_goals omega
  · obtain rfl : i = xs.length := by omega
    (repeat' first | (refine zK (fun hs => ?_) (fun hs => ?_) <;> ((try simp only [Ct.len] at hs); revert hs; intro _; conv => whnf)) | (refine zI (fun _ => ?_) (fun _ => ?_)<;> conv => whnf)|((first|refine zA ?_|refine zB ?_|refine zC ?_|refine zD ?_|refine zE ?_|refine zF ?_|refine zG ?_|fail); conv => whnf)|(refine zJ (fun _ => ?_) ?_<;> conv => whnf)|((first | refine condN Tryz.underlying4 (Nx.mk ?_) | refine zH ?_ | refine Nx.mk ?_); conv => whnf))
    (all_goals try first | contradiction | (exfalso; omega))
    all_goals (refine ⟨[], rfl, ⟨rfl, rfl, trivial, trivial⟩, ?_, ⟨?_, trivial⟩, fun _ => ⟨?_, trivial⟩⟩ <;> ((repeat' ((try conv => whnf); (first|exact zU|refine And.intro ?_ ?_|exact fun _ _ _ _ => Eq.refl _|refine cellJ (fun _ _ => ?_)|(refine cellB ?_; (conv => whnf); refine And.intro ?_ ?_)|exact zV|fail))) <;> (try conv => whnf)))
theorem markCodePlan_fn (p : CodePlan_T) (k : Int) (h0 : 0 ≤ k) (h1 : k ≤ 4194304) (h : sz_CodePlan p ≤ 1048576) : Fn Tryz.prog 30 true (.cons (.agg (.cons (.I p.1) (.cons (.os (rt 0)) .nil))) (.cons (.I k) .nil)) [(0, .row 107 (.tab p.2.1.length 1 (cellsA EdgePlan_O p.2.1)))] (.I (k + (psum cE p.2.1 p.2.1.length : Nat))) [(0, .row 107 (.tab p.2.1.length 1 (cellsA EdgePlan_O (mkE2 k p.2.1 p.2.1.length))))] := by
  (refine Fn_of tysOk Tryz.func30 rfl rfl (by simp [AV.len, Tryz.f30]) ⟨?_⟩; conv => whnf)
  (repeat' first | ((with_reducible show ∃ _ : Bool, _); first | (refine ⟨_, [rt 0], _, _, _, _, markEdgePlanS_fn p.2.1 k h0 h1 h, rfl, zW, zW, Nx.mk ?_⟩; conv => whnf))  | (refine zK (fun hs => ?_) (fun hs => ?_) <;> ((try simp only [Ct.len] at hs); revert hs; intro _; conv => whnf)) | (refine zI (fun _ => ?_) (fun _ => ?_)<;> conv => whnf)|((first|refine zA ?_|refine zB ?_|refine zC ?_|refine zD ?_|refine zE ?_|refine zF ?_|refine zG ?_|fail); conv => whnf)|(refine zJ (fun _ => ?_) ?_<;> conv => whnf)|((first | refine condN Tryz.underlying4 (Nx.mk ?_) | refine zH ?_ | refine Nx.mk ?_); conv => whnf))
  (all_goals try first | contradiction | (exfalso; omega))
  all_goals
    refine ⟨[], rfl, ?_, ?_, ?_, fun _ => ?_⟩
    · ((try conv => whnf); refine ⟨rfl, by rfl, ?_, ?_⟩ <;> ((repeat' ((try conv => whnf); (first|exact zU|refine And.intro ?_ ?_|exact fun _ _ _ _ => Eq.refl _|refine cellJ (fun _ _ => ?_)|(refine cellB ?_; (conv => whnf); refine And.intro ?_ ?_)|exact zV|fail))) <;> (try conv => whnf)))
    all_goals ((repeat' ((try conv => whnf); (first|exact zU|refine And.intro ?_ ?_|exact fun _ _ _ _ => Eq.refl _|refine cellJ (fun _ _ => ?_)|(refine cellB ?_; (conv => whnf); refine And.intro ?_ ?_)|exact zV|fail))) <;> (try conv => whnf))
theorem heldCodePlan_fn (p : CodePlan_T) (k : Int) (h0 : 0 ≤ k) (h1 : k ≤ 4194304) (h : sz_CodePlan p ≤ 1048576) : Fn Tryz.prog 31 true (.cons (.agg (.cons (.I p.1) (.cons (.rs false p.2.1.length 1 (cellsA EdgePlan_R (mkE2 k p.2.1 p.2.1.length))) .nil))) (.cons (.I k) .nil)) [] (.I (k + (psum cE p.2.1 p.2.1.length : Nat))) [] := by
  have hct := cE_tot (xs := p.2.1) h
  (refine Fn_of tysOk Tryz.func31 rfl rfl (by simp [AV.len, Tryz.f31]) ⟨?_⟩; conv => whnf)
  (repeat' first | ((with_reducible show ∃ _ : Bool, _); first | (refine ⟨_, [], _, [], _, _, heldEdgePlanS_fn p.2.1 k h0 h1 h, rfl, trivial, zW, Nx.mk ?_⟩; conv => whnf))  | (refine zK (fun hs => ?_) (fun hs => ?_) <;> ((try simp only [Ct.len] at hs); revert hs; intro _; conv => whnf)) | (refine zI (fun _ => ?_) (fun _ => ?_)<;> conv => whnf)|((first|refine zA ?_|refine zB ?_|refine zC ?_|refine zD ?_|refine zE ?_|refine zF ?_|refine zG ?_|fail); conv => whnf)|(refine zJ (fun _ => ?_) ?_<;> conv => whnf)|((first | refine condN Tryz.underlying4 (Nx.mk ?_) | refine zH ?_ | refine Nx.mk ?_); conv => whnf))
  (all_goals try first | contradiction | (exfalso; omega))
  all_goals (refine ⟨[], rfl, ⟨rfl, rfl, trivial, trivial⟩, ?_, ⟨?_, trivial⟩, fun _ => ⟨?_, trivial⟩⟩ <;> ((repeat' ((try conv => whnf); (first|exact zU|refine And.intro ?_ ?_|exact fun _ _ _ _ => Eq.refl _|refine cellJ (fun _ _ => ?_)|(refine cellB ?_; (conv => whnf); refine And.intro ?_ ?_)|exact zV|fail))) <;> (try conv => whnf)))
end Go.Proofs.YtbepgedckfhifaaGreat
