/-
  Paths: EdgeBetween, IsPath.
-/
import Derived.Test.YtbepgedckfhifaaGreatFiFf
namespace Go.Proofs.YtbepgedckfhifaaGreat
set_option linter.unusedVariables false
set_option linter.unusedSimpArgs false
set_option maxRecDepth 100000
set_option maxHeartbeats 4000000
attribute [local irreducible] Fn
def hasI (xs : List Int) (x : Int) : Bool := xs.any fun y => decide (y = x)
theorem hasI_at {xs : List Int} {x : Int} {i : Nat} (h : i < xs.length) (h1 : xs.getD i 0 = x) : hasI xs x = true := by
  unfold hasI
  rw [List.any_eq_true]
  refine ⟨xs[i], List.getElem_mem h, ?_⟩
  rw [List.getD_eq_getElem?_getD, List.getElem?_eq_getElem h] at h1
  exact decide_eq_true h1
theorem hasI_none {xs : List Int} {x : Int} (h : ∀ k, k < xs.length → xs.getD k 0 ≠ x) : hasI xs x = false := by
  unfold hasI
  rw [List.any_eq_false]
  intro y hy
  obtain ⟨k, hk, rfl⟩ := List.getElem_of_mem hy
  have := h k hk
  rw [List.getD_eq_getElem?_getD, List.getElem?_eq_getElem hk] at this
  simpa using this
theorem sHas_fn (xs : List Int) (x : Int) (h : xs.length ≤ 4194304) : Fn Tryz.prog 35 true (.cons (.ri false .i64 xs) (.cons (.I x) .nil)) [] (.b (hasI xs x)) [] := by
  (refine Fn_of tysOk Tryz.func35 rfl rfl (by simp [AV.len, Tryz.f35]) ⟨?_⟩; conv => whnf)
  refine loopI tysOk [] (fun i : Nat => [(5, .I i)]) (fun i => []) (fun i => i ≤ xs.length ∧ ∀ k, k < i → xs.getD k 0 ≠ x) (fun i => xs.length - i) 0 ⟨Nat.zero_le _, fun k hk => absurd hk (by omega)⟩ ?_ ?_
  · ((try conv => whnf); refine ⟨rfl, by rfl, ?_, ?_⟩ <;> ((repeat' ((try conv => whnf); (first|exact zU|refine And.intro ?_ ?_|exact fun _ _ _ _ => Eq.refl _|refine cellJ (fun _ _ => ?_)|(refine cellB ?_; (conv => whnf); refine And.intro ?_ ?_)|exact zV|fail))) <;> (try conv => whnf)))
  · rintro i ⟨hi, hall⟩
    (repeat' first | (refine zK (fun hs => ?_) (fun hs => ?_) <;> ((try simp only [Ct.len] at hs); revert hs; intro _; conv => whnf)) | (refine zI (fun _ => ?_) (fun _ => ?_)<;> conv => whnf)|((first|refine zA ?_|refine zB ?_|refine zC ?_|refine zD ?_|refine zE ?_|refine zF ?_|refine zG ?_|fail); conv => whnf)|(refine zJ (fun _ => ?_) ?_<;> conv => whnf)|((first | refine condN Tryz.underlying4 (Nx.mk ?_) | refine zH ?_ | refine Nx.mk ?_); conv => whnf))
    · (refine ⟨[], rfl, ⟨rfl, rfl, trivial, trivial⟩, ?_, ⟨?_, trivial⟩, fun _ => ⟨?_, trivial⟩⟩ <;> ((repeat' ((try conv => whnf); (first|exact zU|refine And.intro ?_ ?_|exact fun _ _ _ _ => Eq.refl _|refine cellJ (fun _ _ => ?_)|(refine cellB ?_; (conv => whnf); refine And.intro ?_ ?_)|exact zV|fail))) <;> (try conv => whnf)))
      exact (hasI_at (i := i) (by omega) (by assumption)).symm
    · rename_i h1
      refine ⟨i + 1, ⟨by omega, fun k hk => ?_⟩, by omega, ?_⟩
      · by_cases e : k = i
        · rw [e]; exact h1
        · exact hall k (by omega)
      · ((try conv => whnf); refine ⟨rfl, by rfl, ?_, ?_⟩ <;> ((repeat' ((try conv => whnf); (first|exact zU|refine And.intro ?_ ?_|exact fun _ _ _ _ => Eq.refl _|refine cellJ (fun _ _ => ?_)|(refine cellB ?_; (conv => whnf); refine And.intro ?_ ?_)|exact zV|fail))) <;> (try conv => whnf)))
    · (refine ⟨[], rfl, ⟨rfl, rfl, trivial, trivial⟩, ?_, ⟨?_, trivial⟩, fun _ => ⟨?_, trivial⟩⟩ <;> ((repeat' ((try conv => whnf); (first|exact zU|refine And.intro ?_ ?_|exact fun _ _ _ _ => Eq.refl _|refine cellJ (fun _ _ => ?_)|(refine cellB ?_; (conv => whnf); refine And.intro ?_ ?_)|exact zV|fail))) <;> (try conv => whnf)))
      exact (hasI_none (fun k hk => hall k (by omega))).symm
theorem index_fn (xs : List Int) (x : Int) (h : xs.length ≤ 4194304) : Fn Tryz.prog 168 true (.cons (.ri false .i64 xs) (.cons (.I x) .nil)) [] (.I (idxOf (fun y => decide (y = x)) xs)) [] := by
  (refine Fn_of tysOk Tryz.func168 rfl rfl (by simp [AV.len, Tryz.f168]) ⟨?_⟩; conv => whnf)
  (repeat' first | (refine zK (fun hs => ?_) (fun hs => ?_) <;> ((try simp only [Ct.len] at hs); revert hs; intro _; conv => whnf)) | (refine zI (fun _ => ?_) (fun _ => ?_)<;> conv => whnf)|((first|refine zA ?_|refine zB ?_|refine zC ?_|refine zD ?_|refine zE ?_|refine zF ?_|refine zG ?_|fail); conv => whnf)|(refine zJ (fun _ => ?_) ?_<;> conv => whnf)|((first | refine condN Tryz.underlying4 (Nx.mk ?_) | refine zH ?_ | refine Nx.mk ?_); conv => whnf))
  refine loopI tysOk [] (fun i : Nat => [(8, .I i)]) (fun i => []) (fun i => i ≤ xs.length ∧ ∀ k, k < i → (decide (xs.getD k default = x)) = false) (fun i => xs.length - i) 0 ⟨Nat.zero_le _, fun k hk => absurd hk (by omega)⟩ ?_ ?_
  · ((try conv => whnf); refine ⟨rfl, by rfl, ?_, ?_⟩ <;> ((repeat' ((try conv => whnf); (first|exact zU|refine And.intro ?_ ?_|exact fun _ _ _ _ => Eq.refl _|refine cellJ (fun _ _ => ?_)|(refine cellB ?_; (conv => whnf); refine And.intro ?_ ?_)|exact zV|fail))) <;> (try conv => whnf)))
  · rintro i ⟨hi, hall⟩
    (repeat' first | (refine zK (fun hs => ?_) (fun hs => ?_) <;> ((try simp only [Ct.len] at hs); revert hs; intro _; conv => whnf)) | (refine zI (fun _ => ?_) (fun _ => ?_)<;> conv => whnf)|((first|refine zA ?_|refine zB ?_|refine zC ?_|refine zD ?_|refine zE ?_|refine zF ?_|refine zG ?_|fail); conv => whnf)|(refine zJ (fun _ => ?_) ?_<;> conv => whnf)|((first | refine condN Tryz.underlying4 (Nx.mk ?_) | refine zH ?_ | refine Nx.mk ?_); conv => whnf))
    · (refine ⟨[], rfl, ⟨rfl, rfl, trivial, trivial⟩, ?_, ⟨?_, trivial⟩, fun _ => ⟨?_, trivial⟩⟩ <;> ((repeat' ((try conv => whnf); (first|exact zU|refine And.intro ?_ ?_|exact fun _ _ _ _ => Eq.refl _|refine cellJ (fun _ _ => ?_)|(refine cellB ?_; (conv => whnf); refine And.intro ?_ ?_)|exact zV|fail))) <;> (try conv => whnf)))
      rename_i h1
      exact (idxOf_at (φ := fun y => decide (y = x)) (by omega) (decide_eq_true h1.symm) hall).symm
    · rename_i h1
      refine ⟨i + 1, ⟨by omega, fun k hk => ?_⟩, by omega, ?_⟩
      · by_cases e : k = i
        · rw [e]; exact decide_eq_false (fun e => h1 e.symm)
        · exact hall k (by omega)
      · ((try conv => whnf); refine ⟨rfl, by rfl, ?_, ?_⟩ <;> ((repeat' ((try conv => whnf); (first|exact zU|refine And.intro ?_ ?_|exact fun _ _ _ _ => Eq.refl _|refine cellJ (fun _ _ => ?_)|(refine cellB ?_; (conv => whnf); refine And.intro ?_ ?_)|exact zV|fail))) <;> (try conv => whnf)))
    · (refine ⟨[], rfl, ⟨rfl, rfl, trivial, trivial⟩, ?_, ⟨?_, trivial⟩, fun _ => ⟨?_, trivial⟩⟩ <;> ((repeat' ((try conv => whnf); (first|exact zU|refine And.intro ?_ ?_|exact fun _ _ _ _ => Eq.refl _|refine cellJ (fun _ _ => ?_)|(refine cellB ?_; (conv => whnf); refine And.intro ?_ ?_)|exact zV|fail))) <;> (try conv => whnf)))
      exact (idxOf_none (φ := fun y => decide (y = x)) (fun k hk => hall k (by omega))).symm
theorem contains_fn (xs : List Int) (x : Int) (h : xs.length ≤ 4194304) : Fn Tryz.prog 124 true (.cons (.ri false .i64 xs) (.cons (.I x) .nil)) [] (.b (hasI xs x)) [] := by
  (refine Fn_of tysOk Tryz.func124 rfl rfl (by simp [AV.len, Tryz.f124]) ⟨?_⟩; conv => whnf)
  (repeat' first | ((with_reducible show ∃ _ : Bool, _); first | (refine ⟨_, [], _, [], _, _, index_fn xs x h, rfl, trivial, zW, Nx.mk ?_⟩; conv => whnf))  | (refine zK (fun hs => ?_) (fun hs => ?_) <;> ((try simp only [Ct.len] at hs); revert hs; intro _; conv => whnf)) | (refine zI (fun _ => ?_) (fun _ => ?_)<;> conv => whnf)|((first|refine zA ?_|refine zB ?_|refine zC ?_|refine zD ?_|refine zE ?_|refine zF ?_|refine zG ?_|fail); conv => whnf)|(refine zJ (fun _ => ?_) ?_<;> conv => whnf)|((first | refine condN Tryz.underlying4 (Nx.mk ?_) | refine zH ?_ | refine Nx.mk ?_); conv => whnf))
  all_goals ((refine ⟨[], rfl, ⟨rfl, rfl, trivial, trivial⟩, ?_, ⟨?_, trivial⟩, fun _ => ⟨?_, trivial⟩⟩ <;> ((repeat' ((try conv => whnf); (first|exact zU|refine And.intro ?_ ?_|exact fun _ _ _ _ => Eq.refl _|refine cellJ (fun _ _ => ?_)|(refine cellB ?_; (conv => whnf); refine And.intro ?_ ?_)|exact zV|fail))) <;> (try conv => whnf))))
  · exact (idxOf_any.1 (by assumption)).symm
  · rename_i h1
    exact (Bool.eq_false_iff.2 (fun h2 => h1 (idxOf_any.2 h2))).symm
def isE (a b : Int) (e : Edg) : Bool := decide (e.1 = a ∧ e.2.1 = b)
def eb (g : Gr) (a b : Int) : Int := idxOf (isE a b) g.2.1
def StepOk (g : Gr) (p : List Int) (i : Nat) : Prop :=
  0 ≤ p.getD i 0 ∧ p.getD i 0 ≤ g.1 - 1 ∧ hasI (p.take i) (p.getD i 0) = false ∧ (0 < i → 0 ≤ eb g (p.getD (i - 1) 0) (p.getD i 0))
structure IsP (g : Gr) (p : List Int) : Prop where
  v : ValidG g
  ne : 0 < p.length
  at_ : ∀ i, i < p.length → StepOk g p i
open Classical in
noncomputable def isP (g : Gr) (p : List Int) : Bool := decide (IsP g p)
end Go.Proofs.YtbepgedckfhifaaGreat
