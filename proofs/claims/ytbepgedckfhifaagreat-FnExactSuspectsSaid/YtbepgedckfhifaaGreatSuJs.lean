/-
  Suspects, of both.
-/
import Derived.Test.YtbepgedckfhifaaGreatSuGs
import Derived.Test.YtbepgedckfhifaaGreatSuHm
import Derived.Test.YtbepgedckfhifaaGreatSuFh
namespace Go.Proofs.YtbepgedckfhifaaGreat
set_option linter.unusedVariables false
set_option linter.unusedSimpArgs false
set_option maxRecDepth 100000
set_option maxHeartbeats 4000000
attribute [local irreducible] Fn
theorem sorted_eqS {xs ys : List Int} (hx : xs.Pairwise (fun a b => a < b)) (hn : ys.Nodup) (hm : ∀ x, x ∈ xs ↔ x ∈ ys) : xs = sortI ys := by
  have hxn : xs.Nodup := hx.imp (fun h e => by omega)
  have hp : xs.Perm (sortI ys) := ((List.perm_ext_iff_of_nodup hxn hn).2 hm).trans sortI_perm.symm
  exact List.Perm.eq_of_pairwise (le := fun a b => a ≤ b) (fun a b _ _ h1 h2 => by omega) (hx.imp (fun h => by omega)) sortI_up hp
theorem sortI_lt {ys : List Int} (hn : ys.Nodup) : (sortI ys).Pairwise (fun a b => a < b) := by
  have h1 := sortI_up (xs := ys)
  have h2 : (sortI ys).Nodup := sortI_perm.nodup_iff.2 hn
  exact (h1.and h2).imp (fun h => by omega)
theorem hasI_mem' {xs : List Int} {x : Int} : hasI xs x = true ↔ x ∈ xs := by
  unfold hasI
  rw [List.any_eq_true]
  exact ⟨fun ⟨y, hy, e⟩ => by rw [← of_decide_eq_true e]; exact hy, fun h => ⟨x, h, decide_eq_true rfl⟩⟩
theorem ins_sorted {ys : List Int} {x : Int} {j : Nat} (hn : ys.Nodup) (hx : x ∉ ys) (hj : j ≤ (sortI ys).length) (h1 : ∀ k, k < j → (sortI ys).getD k 0 < x) (h2 : j < (sortI ys).length → ¬ (sortI ys).getD j 0 < x) : (sortI ys).take j ++ [x] ++ (sortI ys).drop j = sortI (ys ++ [x]) := by
  have hlt := sortI_lt hn
  have hxs : x ∉ sortI ys := fun h => hx (sortI_mem.1 h)
  generalize hL : sortI ys = L at *
  have hmem : ∀ z, z ∈ L ↔ z ∈ ys := fun z => by rw [← hL]; exact sortI_mem
  have at_ : ∀ k (hk : k < L.length), L.getD k 0 = L[k] := fun k hk => by rw [List.getD_eq_getElem?_getD, List.getElem?_eq_getElem hk]; rfl
  refine sorted_eqS ?_ ?_ ?_
  · rw [List.append_assoc, List.pairwise_append]
    refine ⟨hlt.sublist (List.take_sublist _ _), ?_, fun a ha b hb => ?_⟩
    · rw [List.singleton_append, List.pairwise_cons]
      refine ⟨fun b hb => ?_, hlt.sublist (List.drop_sublist _ _)⟩
      obtain ⟨k, hk, rfl⟩ := List.getElem_of_mem hb
      rw [List.length_drop] at hk
      rw [List.getElem_drop]
      have h3 := h2 (by omega)
      rw [at_ j (by omega)] at h3
      have h4 : L[j] ≤ L[j + k] := by
        rcases Nat.eq_zero_or_pos k with rfl | hk0
        · exact Int.le_refl _
        · have := List.pairwise_iff_getElem.1 hlt j (j + k) (by omega) (by omega) (by omega); omega
      have h5 : L[j + k] ≠ x := fun e => hxs (by rw [← e]; exact List.getElem_mem _)
      omega
    · obtain ⟨k, hk, rfl⟩ := List.getElem_of_mem ha
      rw [List.length_take] at hk
      rw [List.getElem_take]
      have h3 := h1 k (by omega)
      rw [at_ k (by omega)] at h3
      rw [List.singleton_append, List.mem_cons] at hb
      rcases hb with rfl | hb
      · exact h3
      · obtain ⟨k2, hk2, rfl⟩ := List.getElem_of_mem hb
        rw [List.length_drop] at hk2
        rw [List.getElem_drop]
        exact List.pairwise_iff_getElem.1 hlt k (j + k2) (by omega) (by omega) (by omega)
  · rw [List.nodup_append]
    refine ⟨hn, by simp, fun a ha b hb => ?_⟩
    rw [List.mem_singleton] at hb
    rintro rfl
    exact hx (hb ▸ ha)
  · intro z
    simp only [List.mem_append, List.mem_singleton]
    have : z ∈ L ↔ z ∈ L.take j ∨ z ∈ L.drop j := by rw [← List.mem_append, List.take_append_drop]
    rw [← hmem z, this]
    constructor
    · rintro ((h | h) | h)
      · exact .inl (.inl h)
      · exact .inr h
      · exact .inl (.inr h)
    · rintro ((h | h) | h)
      · exact .inl (.inl h)
      · exact .inr h
      · exact .inl (.inr h)
attribute [local irreducible] prfB sortI hasI
noncomputable def susK (mk : Int) (k : HashKey_T) (m : Manifest_T) (xs : LinkPacketS_T) : Nat → List Int
  | 0 => []
  | i + 1 => if prfB mk k m (xs.getD i default) = true ∧ hasI (susK mk k m xs i) (xs.getD i default).1 = false then susK mk k m xs i ++ [(xs.getD i default).1] else susK mk k m xs i
section
variable {mk : Int} {k : HashKey_T} {m : Manifest_T} {xs : LinkPacketS_T}
theorem susK_zero : susK mk k m xs 0 = [] := rfl
theorem susK_add {i : Nat} (h1 : prfB mk k m (xs.getD i default) = true) (h2 : hasI (susK mk k m xs i) (xs.getD i default).1 = false) : susK mk k m xs (i + 1) = susK mk k m xs i ++ [(xs.getD i default).1] := if_pos ⟨h1, h2⟩
theorem susK_no {i : Nat} (h : ¬ prfB mk k m (xs.getD i default) = true) : susK mk k m xs (i + 1) = susK mk k m xs i := if_neg (fun hc => h hc.1)
theorem susK_has {i : Nat} (h : hasI (susK mk k m xs i) (xs.getD i default).1 = true) : susK mk k m xs (i + 1) = susK mk k m xs i := if_neg (fun hc => by rw [h] at hc; cases hc.2)
theorem susK_nd : ∀ {i : Nat}, (susK mk k m xs i).Nodup ∧ (susK mk k m xs i).length ≤ i ∧ ∀ x ∈ susK mk k m xs i, ∃ j, j < i ∧ x = (xs.getD j default).1 := by
  intro i
  induction i with
  | zero => exact ⟨List.nodup_nil, Nat.le_refl _, fun x hx => by rw [susK_zero] at hx; cases hx⟩
  | succ i ih =>
    obtain ⟨h1, h2, h3⟩ := ih
    by_cases hp : prfB mk k m (xs.getD i default) = true
    · cases hh : hasI (susK mk k m xs i) (xs.getD i default).1 with
      | true => rw [susK_has hh]; exact ⟨h1, by omega, fun x hx => by obtain ⟨j, hj, e⟩ := h3 x hx; exact ⟨j, by omega, e⟩⟩
      | false =>
        rw [susK_add hp hh]
        refine ⟨?_, by simp; omega, fun x hx => ?_⟩
        · rw [List.nodup_append]
          refine ⟨h1, by simp, fun a ha b hb => ?_⟩
          rw [List.mem_singleton] at hb
          rintro rfl
          have := hasI_mem'.2 (hb ▸ ha)
          rw [hh] at this; cases this
        · rcases List.mem_append.1 hx with hx | hx
          · obtain ⟨j, hj, e⟩ := h3 x hx; exact ⟨j, by omega, e⟩
          · rw [List.mem_singleton] at hx; exact ⟨i, by omega, hx⟩
    · rw [susK_no hp]; exact ⟨h1, by omega, fun x hx => by obtain ⟨j, hj, e⟩ := h3 x hx; exact ⟨j, by omega, e⟩⟩
end
def tru (l : List Int) : List (Int × Bool) := l.map fun x => (x, true)
theorem tru_keys {l : List Int} : (tru l).map (·.1) = l := by
  unfold tru
  induction l with
  | nil => rfl
  | cons a l ih => simp only [List.map_cons]; rw [ih]
theorem mset_tru : ∀ {l : List Int} {x : Int}, x ∉ l → mset (tru l) x true = tru (l ++ [x]) := by
  intro l
  induction l with
  | nil => intro x _; rfl
  | cons y l ih =>
    intro x hx
    have h1 : ¬ x = y := fun e => hx (by simp [e])
    have h2 : x ∉ l := fun h => hx (by simp [h])
    have := ih h2
    unfold tru at this ⊢
    simp only [List.map_cons, List.cons_append]
    unfold mset
    simp only [if_neg h1, this]
theorem mset_tru' : ∀ {l : List Int} {x : Int}, x ∈ l → mset (tru l) x true = tru l := by
  intro l
  induction l with
  | nil => intro x h; cases h
  | cons y l ih =>
    intro x hx
    unfold tru at *
    simp only [List.map_cons]
    unfold mset
    by_cases h1 : x = y
    · simp [h1]
    · simp only [if_neg h1]
      rw [ih (by rcases List.mem_cons.1 hx with h | h; exact absurd h h1; exact h)]
attribute [local irreducible] susK tru
end Go.Proofs.YtbepgedckfhifaaGreat
