/-
  A plan that serves its sinks is sought, of both.
-/
import Derived.Test.YtbepgedckfhifaaGreatFiJk
import Derived.Test.YtbepgedckfhifaaGreatFiKm
namespace Go.Proofs.YtbepgedckfhifaaGreat
set_option linter.unusedVariables false
set_option linter.unusedSimpArgs false
set_option maxRecDepth 100000
set_option maxHeartbeats 4000000
attribute [local irreducible] Fn
noncomputable def fpB (g : Gr) (s : Int) (l : List Int) (d : Int) (i : Nat) : Bool := mkB g s d && psB g (mkPl g s d i) l
noncomputable def fpI (g : Gr) (s : Int) (l : List Int) (d : Int) : Int := idxOf (fpB g s l d) (List.range 30)
noncomputable def fpP (g : Gr) (s : Int) (l : List Int) (d : Int) : CodePlan_T := if fpI g s l d < 0 then (0, [], ()) else mkPl g s d (fpI g s l d)
theorem range_at {n i : Nat} (h : i < n) : (List.range n).getD i default = i := by simp [List.getD_eq_getElem?_getD, h]
theorem fpI_at {g : Gr} {s : Int} {l : List Int} {d : Int} {i : Nat} (hi : i < 30) (h : fpB g s l d i = true) (hall : ∀ k, k < i → fpB g s l d k = false) : fpI g s l d = i :=
  idxOf_at (by simpa using hi) (by rw [range_at hi]; exact h) (fun k hk => by rw [range_at (by omega)]; exact hall k hk)
theorem fpI_none {g : Gr} {s : Int} {l : List Int} {d : Int} (hall : ∀ k, k < 30 → fpB g s l d k = false) : fpI g s l d = -1 :=
  idxOf_none (fun k hk => by
    have hk : k < 30 := by simpa using hk
    rw [range_at hk]; exact hall k hk)
theorem fpP_at {g : Gr} {s : Int} {l : List Int} {d : Int} {i : Nat} (h : fpI g s l d = i) : fpP g s l d = mkPl g s d i := by unfold fpP; rw [h, if_neg (by omega)]
theorem fpP_none {g : Gr} {s : Int} {l : List Int} {d : Int} (h : fpI g s l d = -1) : fpP g s l d = (0, [], ()) := by unfold fpP; rw [h]; exact if_pos (by omega)
theorem fpP_sz {g : Gr} {s : Int} {l : List Int} {d : Int} : sz_CodePlan (fpP g s l d) ≤ 4096 := by
  unfold fpP
  split
  · show sz_EdgePlanS [] ≤ 4096
    rw [szE_eq]; simp [psum]
  · exact mkPl_sz
attribute [local irreducible] fpB fpI fpP mkPl mkB psB planB
theorem sFi_fn (g : Gr) (s : Int) (l : List Int) (d : Int) (h : g.2.1.length ≤ 1048576) (hl : l.length ≤ 1048576) : Fn Tryz.prog 23 true (.cons (GrA g) (.cons (.I s) (.cons (.ri false .i64 l) (.cons (.I d) .nil)))) [] (.tup (.cons (.agg (.cons (.I (fpP g s l d).1) (.cons (.os (rt 16)) .nil))) (.cons (.I (fpI g s l d)) .nil))) [(16, .row 107 (.tab (fpP g s l d).2.1.length 1 (cellsA EdgePlan_O (fpP g s l d).2.1)))] := by
  (refine Fn_of tysOk Tryz.func23 rfl rfl (by simp [AV.len, Tryz.f23]) ⟨?_⟩; conv => whnf)
  (repeat' first | (refine zK (fun hs => ?_) (fun hs => ?_) <;> ((try simp only [Ct.len] at hs); revert hs; intro _; conv => whnf)) | (refine zI (fun _ => ?_) (fun _ => ?_)<;> conv => whnf)|((first|refine zA ?_|refine zB ?_|refine zC ?_|refine zD ?_|refine zE ?_|refine zF ?_|refine zG ?_|fail); conv => whnf)|(refine zJ (fun _ => ?_) ?_<;> conv => whnf)|((first | refine condN Tryz.underlying4 (Nx.mk ?_) | refine zH ?_ | refine Nx.mk ?_); conv => whnf))
  refine loopI tysOk [nm 22, nm 11] (fun i : Nat => [(10, .I i)]) (fun i => []) (fun i => i ≤ 30 ∧ ∀ k, k < i → fpB g s l d k = false) (fun i => 30 - i) 0 ⟨Nat.zero_le _, fun k hk => absurd hk (by omega)⟩ ?_ ?_
  · ((try conv => whnf); refine ⟨rfl, by rfl, ?_, ?_⟩ <;> ((repeat' ((try conv => whnf); (first|exact zU|refine And.intro ?_ ?_|exact fun _ _ _ _ => Eq.refl _|refine cellJ (fun _ _ => ?_)|(refine cellB ?_; (conv => whnf); refine And.intro ?_ ?_)|exact zV|fail))) <;> (try conv => whnf)))
  rintro i ⟨hi, hall⟩
  by_cases hlt : i < 30
  · have c1 := sMk_fn g s d i h
    have hsz := mkPl_sz (g := g) (s := s) (d := d) (seed := i)
    have c2 := sPs_fn g (mkPl g s d i) l h (by omega) hl
    have hd : fpB g s l d i = (mkB g s d && psB g (mkPl g s d i) l) := by with_unfolding_all rfl
    cases hb : fpB g s l d i with
    | true =>
      have hI := fpI_at hlt hb hall
      have hP := fpP_at hI
      rw [hd, Bool.and_eq_true] at hb
      rw [hb.1] at c1
      have c2 := c2.tt hb.2
      rw [hI, hP]
      generalize mkPl g s d i = pl at *
      (repeat' first | ((with_reducible show ∃ _ : Bool, _); first | (refine ⟨_, [], _, [], _, _, c1, rfl, trivial, zW, Nx.mk ?_⟩; conv => whnf)|(refine ⟨_, [], _, [], _, _, c2, rfl, trivial, zW, Nx.mk ?_⟩; conv => whnf))  | (refine zK (fun hs => ?_) (fun hs => ?_) <;> ((try simp only [Ct.len] at hs); revert hs; intro _; conv => whnf)) | (refine zI (fun _ => ?_) (fun _ => ?_)<;> conv => whnf)|((first|refine zA ?_|refine zB ?_|refine zC ?_|refine zD ?_|refine zE ?_|refine zF ?_|refine zG ?_|fail); conv => whnf)|(refine zJ (fun _ => ?_) ?_<;> conv => whnf)|((first | refine condN Tryz.underlying4 (Nx.mk ?_) | refine zH ?_ | refine Nx.mk ?_); conv => whnf))
      (all_goals try first | contradiction | (exfalso; omega))
      all_goals
        refine ⟨[(16, nm 22)], rfl, ?_, ?_, ?_, fun _ => ?_⟩
        · ((try conv => whnf); refine ⟨rfl, by rfl, ?_, ?_⟩ <;> ((repeat' ((try conv => whnf); (first|exact zU|refine And.intro ?_ ?_|exact fun _ _ _ _ => Eq.refl _|refine cellJ (fun _ _ => ?_)|(refine cellB ?_; (conv => whnf); refine And.intro ?_ ?_)|exact zV|fail))) <;> (try conv => whnf)))
        all_goals ((repeat' ((try conv => whnf); (first|exact zU|refine And.intro ?_ ?_|exact fun _ _ _ _ => Eq.refl _|refine cellJ (fun _ _ => ?_)|(refine cellB ?_; (conv => whnf); refine And.intro ?_ ?_)|exact zV|fail))) <;> (try conv => whnf))
    | false =>
      have hnx : ∀ k, k < i + 1 → fpB g s l d k = false := fun k hk => by
        by_cases e : k = i
        · rw [e]; exact hb
        · exact hall k (by omega)
      rw [hd] at hb
      cases hm : mkB g s d with
      | true =>
        rw [hm, Bool.true_and] at hb
        rw [hm] at c1
        rw [hb] at c2
        generalize mkPl g s d i = pl at *
        (repeat' first | ((with_reducible show ∃ _ : Bool, _); first | (refine ⟨_, [], _, [], _, _, c1, rfl, trivial, zW, Nx.mk ?_⟩; conv => whnf)|(refine ⟨_, [], _, [], _, _, c2, rfl, trivial, zW, Nx.mk ?_⟩; conv => whnf))  | (refine zK (fun hs => ?_) (fun hs => ?_) <;> ((try simp only [Ct.len] at hs); revert hs; intro _; conv => whnf)) | (refine zI (fun _ => ?_) (fun _ => ?_)<;> conv => whnf)|((first|refine zA ?_|refine zB ?_|refine zC ?_|refine zD ?_|refine zE ?_|refine zF ?_|refine zG ?_|fail); conv => whnf)|(refine zJ (fun _ => ?_) ?_<;> conv => whnf)|((first | refine condN Tryz.underlying4 (Nx.mk ?_) | refine zH ?_ | refine Nx.mk ?_); conv => whnf))
        (all_goals try first | contradiction | (exfalso; omega))
        all_goals
          refine ⟨i + 1, ⟨by omega, hnx⟩, by omega, ?_⟩
          ((try conv => whnf); refine ⟨rfl, by rfl, ?_, ?_⟩ <;> ((repeat' ((try conv => whnf); (first|exact zU|refine And.intro ?_ ?_|exact fun _ _ _ _ => Eq.refl _|refine cellJ (fun _ _ => ?_)|(refine cellB ?_; (conv => whnf); refine And.intro ?_ ?_)|exact zV|fail))) <;> (try conv => whnf)))
      | false =>
        rw [hm] at c1
        generalize mkPl g s d i = pl at *
        (repeat' first | ((with_reducible show ∃ _ : Bool, _); first | (refine ⟨_, [], _, [], _, _, c1, rfl, trivial, zW, Nx.mk ?_⟩; conv => whnf))  | (refine zK (fun hs => ?_) (fun hs => ?_) <;> ((try simp only [Ct.len] at hs); revert hs; intro _; conv => whnf)) | (refine zI (fun _ => ?_) (fun _ => ?_)<;> conv => whnf)|((first|refine zA ?_|refine zB ?_|refine zC ?_|refine zD ?_|refine zE ?_|refine zF ?_|refine zG ?_|fail); conv => whnf)|(refine zJ (fun _ => ?_) ?_<;> conv => whnf)|((first | refine condN Tryz.underlying4 (Nx.mk ?_) | refine zH ?_ | refine Nx.mk ?_); conv => whnf))
        (all_goals try first | contradiction | (exfalso; omega))
        all_goals
          refine ⟨i + 1, ⟨by omega, hnx⟩, by omega, ?_⟩
          ((try conv => whnf); refine ⟨rfl, by rfl, ?_, ?_⟩ <;> ((repeat' ((try conv => whnf); (first|exact zU|refine And.intro ?_ ?_|exact fun _ _ _ _ => Eq.refl _|refine cellJ (fun _ _ => ?_)|(refine cellB ?_; (conv => whnf); refine And.intro ?_ ?_)|exact zV|fail))) <;> (try conv => whnf)))
  · obtain rfl : i = 30 := by omega
    have hI := fpI_none hall
    rw [fpP_none hI, hI]
    (repeat' first | (refine zK (fun hs => ?_) (fun hs => ?_) <;> ((try simp only [Ct.len] at hs); revert hs; intro _; conv => whnf)) | (refine zI (fun _ => ?_) (fun _ => ?_)<;> conv => whnf)|((first|refine zA ?_|refine zB ?_|refine zC ?_|refine zD ?_|refine zE ?_|refine zF ?_|refine zG ?_|fail); conv => whnf)|(refine zJ (fun _ => ?_) ?_<;> conv => whnf)|((first | refine condN Tryz.underlying4 (Nx.mk ?_) | refine zH ?_ | refine Nx.mk ?_); conv => whnf))
    (all_goals try first | contradiction | (exfalso; omega))
    all_goals
      refine ⟨[], rfl, ?_, ?_, ?_, fun _ => ?_⟩
      · ((try conv => whnf); refine ⟨rfl, by rfl, ?_, ?_⟩ <;> ((repeat' ((try conv => whnf); (first|exact zU|refine And.intro ?_ ?_|exact fun _ _ _ _ => Eq.refl _|refine cellJ (fun _ _ => ?_)|(refine cellB ?_; (conv => whnf); refine And.intro ?_ ?_)|exact zV|fail))) <;> (try conv => whnf)))
      all_goals ((repeat' ((try conv => whnf); (first|exact zU|refine And.intro ?_ ?_|exact fun _ _ _ _ => Eq.refl _|refine cellJ (fun _ _ => ?_)|(refine cellB ?_; (conv => whnf); refine And.intro ?_ ?_)|exact zV|fail))) <;> (try conv => whnf))
theorem iFi_fn (g : Gr) (s : Int) (l : List Int) (d : Int) (h : g.2.1.length ≤ 1048576) (hl : l.length ≤ 1048576) : Fn Tryz.prog 26 true (.cons (GrA g) (.cons (.I s) (.cons (.ri false .i64 l) (.cons (.I d) .nil)))) [] (.tup (.cons (.agg (.cons (.I (fpP g s l d).1) (.cons (.os (rt 16)) .nil))) (.cons (.I (fpI g s l d)) .nil))) [(16, .row 107 (.tab (fpP g s l d).2.1.length 1 (cellsA EdgePlan_O (fpP g s l d).2.1)))] := by
  (refine Fn_of tysOk Tryz.func26 rfl rfl (by simp [AV.len, Tryz.f26]) ⟨?_⟩; conv => whnf)
  (repeat' first | (refine zK (fun hs => ?_) (fun hs => ?_) <;> ((try simp only [Ct.len] at hs); revert hs; intro _; conv => whnf)) | (refine zI (fun _ => ?_) (fun _ => ?_)<;> conv => whnf)|((first|refine zA ?_|refine zB ?_|refine zC ?_|refine zD ?_|refine zE ?_|refine zF ?_|refine zG ?_|fail); conv => whnf)|(refine zJ (fun _ => ?_) ?_<;> conv => whnf)|((first | refine condN Tryz.underlying4 (Nx.mk ?_) | refine zH ?_ | refine Nx.mk ?_); conv => whnf))
  refine loopI tysOk [nm 21, nm 11] (fun i : Nat => [(13, .I i)]) (fun i => []) (fun i => i ≤ 30 ∧ ∀ k, k < i → fpB g s l d k = false) (fun i => 30 - i) 0 ⟨Nat.zero_le _, fun k hk => absurd hk (by omega)⟩ ?_ ?_
  · ((try conv => whnf); refine ⟨rfl, by rfl, ?_, ?_⟩ <;> ((repeat' ((try conv => whnf); (first|exact zU|refine And.intro ?_ ?_|exact fun _ _ _ _ => Eq.refl _|refine cellJ (fun _ _ => ?_)|(refine cellB ?_; (conv => whnf); refine And.intro ?_ ?_)|exact zV|fail))) <;> (try conv => whnf)))
  rintro i ⟨hi, hall⟩
  by_cases hlt : i < 30
  · have c1 := iMk_fn g s d i h
    have hsz := mkPl_sz (g := g) (s := s) (d := d) (seed := i)
    have c2 := iPs_fn g (mkPl g s d i) l h (by omega) hl
    have hd : fpB g s l d i = (mkB g s d && psB g (mkPl g s d i) l) := by with_unfolding_all rfl
    cases hb : fpB g s l d i with
    | true =>
      have hI := fpI_at hlt hb hall
      have hP := fpP_at hI
      rw [hd, Bool.and_eq_true] at hb
      rw [hb.1] at c1
      have c2 := c2.tt hb.2
      rw [hI, hP]
      generalize mkPl g s d i = pl at *
      (repeat' first | ((with_reducible show ∃ _ : Bool, _); first | (refine ⟨_, [], _, [], _, _, c1, rfl, trivial, zW, Nx.mk ?_⟩; conv => whnf)|(refine ⟨_, [], _, [], _, _, c2, rfl, trivial, zW, Nx.mk ?_⟩; conv => whnf))  | (refine zK (fun hs => ?_) (fun hs => ?_) <;> ((try simp only [Ct.len] at hs); revert hs; intro _; conv => whnf)) | (refine zI (fun _ => ?_) (fun _ => ?_)<;> conv => whnf)|((first|refine zA ?_|refine zB ?_|refine zC ?_|refine zD ?_|refine zE ?_|refine zF ?_|refine zG ?_|fail); conv => whnf)|(refine zJ (fun _ => ?_) ?_<;> conv => whnf)|((first | refine condN Tryz.underlying4 (Nx.mk ?_) | refine zH ?_ | refine Nx.mk ?_); conv => whnf))
      (all_goals try first | contradiction | (exfalso; omega))
      all_goals
        refine ⟨[(16, nm 21)], rfl, ?_, ?_, ?_, fun _ => ?_⟩
        · ((try conv => whnf); refine ⟨rfl, by rfl, ?_, ?_⟩ <;> ((repeat' ((try conv => whnf); (first|exact zU|refine And.intro ?_ ?_|exact fun _ _ _ _ => Eq.refl _|refine cellJ (fun _ _ => ?_)|(refine cellB ?_; (conv => whnf); refine And.intro ?_ ?_)|exact zV|fail))) <;> (try conv => whnf)))
        all_goals ((repeat' ((try conv => whnf); (first|exact zU|refine And.intro ?_ ?_|exact fun _ _ _ _ => Eq.refl _|refine cellJ (fun _ _ => ?_)|(refine cellB ?_; (conv => whnf); refine And.intro ?_ ?_)|exact zV|fail))) <;> (try conv => whnf))
    | false =>
      have hnx : ∀ k, k < i + 1 → fpB g s l d k = false := fun k hk => by
        by_cases e : k = i
        · rw [e]; exact hb
        · exact hall k (by omega)
      rw [hd] at hb
      cases hm : mkB g s d with
      | true =>
        rw [hm, Bool.true_and] at hb
        rw [hm] at c1
        rw [hb] at c2
        generalize mkPl g s d i = pl at *
        (repeat' first | ((with_reducible show ∃ _ : Bool, _); first | (refine ⟨_, [], _, [], _, _, c1, rfl, trivial, zW, Nx.mk ?_⟩; conv => whnf)|(refine ⟨_, [], _, [], _, _, c2, rfl, trivial, zW, Nx.mk ?_⟩; conv => whnf))  | (refine zK (fun hs => ?_) (fun hs => ?_) <;> ((try simp only [Ct.len] at hs); revert hs; intro _; conv => whnf)) | (refine zI (fun _ => ?_) (fun _ => ?_)<;> conv => whnf)|((first|refine zA ?_|refine zB ?_|refine zC ?_|refine zD ?_|refine zE ?_|refine zF ?_|refine zG ?_|fail); conv => whnf)|(refine zJ (fun _ => ?_) ?_<;> conv => whnf)|((first | refine condN Tryz.underlying4 (Nx.mk ?_) | refine zH ?_ | refine Nx.mk ?_); conv => whnf))
        (all_goals try first | contradiction | (exfalso; omega))
        all_goals
          refine ⟨i + 1, ⟨by omega, hnx⟩, by omega, ?_⟩
          ((try conv => whnf); refine ⟨rfl, by rfl, ?_, ?_⟩ <;> ((repeat' ((try conv => whnf); (first|exact zU|refine And.intro ?_ ?_|exact fun _ _ _ _ => Eq.refl _|refine cellJ (fun _ _ => ?_)|(refine cellB ?_; (conv => whnf); refine And.intro ?_ ?_)|exact zV|fail))) <;> (try conv => whnf)))
      | false =>
        rw [hm] at c1
        generalize mkPl g s d i = pl at *
        (repeat' first | ((with_reducible show ∃ _ : Bool, _); first | (refine ⟨_, [], _, [], _, _, c1, rfl, trivial, zW, Nx.mk ?_⟩; conv => whnf))  | (refine zK (fun hs => ?_) (fun hs => ?_) <;> ((try simp only [Ct.len] at hs); revert hs; intro _; conv => whnf)) | (refine zI (fun _ => ?_) (fun _ => ?_)<;> conv => whnf)|((first|refine zA ?_|refine zB ?_|refine zC ?_|refine zD ?_|refine zE ?_|refine zF ?_|refine zG ?_|fail); conv => whnf)|(refine zJ (fun _ => ?_) ?_<;> conv => whnf)|((first | refine condN Tryz.underlying4 (Nx.mk ?_) | refine zH ?_ | refine Nx.mk ?_); conv => whnf))
        (all_goals try first | contradiction | (exfalso; omega))
        all_goals
          refine ⟨i + 1, ⟨by omega, hnx⟩, by omega, ?_⟩
          ((try conv => whnf); refine ⟨rfl, by rfl, ?_, ?_⟩ <;> ((repeat' ((try conv => whnf); (first|exact zU|refine And.intro ?_ ?_|exact fun _ _ _ _ => Eq.refl _|refine cellJ (fun _ _ => ?_)|(refine cellB ?_; (conv => whnf); refine And.intro ?_ ?_)|exact zV|fail))) <;> (try conv => whnf)))
  · obtain rfl : i = 30 := by omega
    have hI := fpI_none hall
    rw [fpP_none hI, hI]
    (repeat' first | (refine zK (fun hs => ?_) (fun hs => ?_) <;> ((try simp only [Ct.len] at hs); revert hs; intro _; conv => whnf)) | (refine zI (fun _ => ?_) (fun _ => ?_)<;> conv => whnf)|((first|refine zA ?_|refine zB ?_|refine zC ?_|refine zD ?_|refine zE ?_|refine zF ?_|refine zG ?_|fail); conv => whnf)|(refine zJ (fun _ => ?_) ?_<;> conv => whnf)|((first | refine condN Tryz.underlying4 (Nx.mk ?_) | refine zH ?_ | refine Nx.mk ?_); conv => whnf))
    (all_goals try first | contradiction | (exfalso; omega))
    all_goals
      refine ⟨[], rfl, ?_, ?_, ?_, fun _ => ?_⟩
      · ((try conv => whnf); refine ⟨rfl, by rfl, ?_, ?_⟩ <;> ((repeat' ((try conv => whnf); (first|exact zU|refine And.intro ?_ ?_|exact fun _ _ _ _ => Eq.refl _|refine cellJ (fun _ _ => ?_)|(refine cellB ?_; (conv => whnf); refine And.intro ?_ ?_)|exact zV|fail))) <;> (try conv => whnf)))
      all_goals ((repeat' ((try conv => whnf); (first|exact zU|refine And.intro ?_ ?_|exact fun _ _ _ _ => Eq.refl _|refine cellJ (fun _ _ => ?_)|(refine cellB ?_; (conv => whnf); refine And.intro ?_ ?_)|exact zV|fail))) <;> (try conv => whnf))
end Go.Proofs.YtbepgedckfhifaaGreat
