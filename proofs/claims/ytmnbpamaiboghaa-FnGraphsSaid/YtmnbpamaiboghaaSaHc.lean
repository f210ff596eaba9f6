/-
  The path that a search in breadth finds, in plain words.
-/
import Derived.Test.YtmnbpamaiboghaaSaFx
import Derived.Test.YtmnbpamaiboghaaSaFi
import Derived.Test.YtmnbpamaiboghaaSaGf
namespace Go.Proofs.Ytmnbpamaiboghaa
set_option linter.unusedVariables false
set_option linter.unusedSimpArgs false
/-- The nodes from a node that was found back to the start. -/
structure ChOk (g : Gr) (us : Nat → Bool) (s : Int) (M : Pairs) (i : Nat) (c : List Int) : Prop where
  mem : ∀ x ∈ c, ∃ k, k ≤ i ∧ x = (M.getD k default).1
  nd : c.Nodup
  ne : 0 < c.length
  fst : c.getD 0 0 = (M.getD i default).1
  lst : c.getD (c.length - 1) 0 = s
  edge : ∀ q, q + 1 < c.length → ∃ e, e < g.2.1.length ∧ us e = true ∧ (g.2.1.getD e default).1 = c.getD (q + 1) 0 ∧ (g.2.1.getD e default).2.1 = c.getD q 0
  tail : ∀ q, q < c.length → chain M s 8 (c.getD q 0) = c.drop q
/-- A node is found if and only if it is reached. -/
theorem found_iff {g : Gr} {s t : Int} (hp : Pair g s t) : mhas (bfsM g usAll s) t = true ↔ (reachL g [s]).getD t.toNat false = true := by
  have hv := hp.v
  have h := bfsM_inv (us := usAll) hv hp.s0 hp.s1
  have hst : ∀ k, k < [s].length → 0 ≤ [s].getD k 0 ∧ [s].getD k 0 < g.1 := fun k hk => by
    have : k = 0 := by simpa using hk
    subst this; exact ⟨hp.s0, hp.s1⟩
  constructor
  · intro ht
    obtain ⟨i, hi, rfl⟩ := has_at ht
    clear ht hp
    induction i using Nat.strongRecOn with
    | _ i ih =>
      by_cases h0 : i = 0
      · subst h0
        rw [h.hd]
        exact reach_start (g := g) (l := [s]) hst (j := 0) (by simp)
      · obtain ⟨j, hj, hm⟩ := h.par i (by omega) hi
        obtain ⟨k, k1, k2, k3, k4⟩ := bfsC_mem hm
        have := reach_closed (l := [s]) hv k k1 (by
          show (reachL g [s]).getD (eAtT g k).1.toNat false = true
          unfold eAtT
          rw [k2]; exact ih j hj (by omega))
        rw [k4]
        exact this
  · intro hr
    have := reach_sound (g := g) (l := [s]) (P := fun b => mhas (bfsM g usAll s) (b : Int) = true) (fun k hk h1 => by
      have he := hv.ends hk
      have e1 : (((eAtT g k).1.toNat : Nat) : Int) = (eAtT g k).1 := by unfold eAtT; omega
      have e2 : (((eAtT g k).2.1.toNat : Nat) : Int) = (eAtT g k).2.1 := by unfold eAtT; omega
      rw [e1] at h1; rw [e2]
      obtain ⟨i, hi, e⟩ := has_at h1
      refine sr_over (C := bfsC g usAll) (r := (s, s)) ⟨hp.s0, hp.s1⟩ (bfsC_rng hv) hv.hi hi (p := ((eAtT g k).2.1, ((bfsM g usAll s).getD i default).1)) ?_
      show _ ∈ bfsC g usAll ((bfsM g usAll s).getD i default).1
      rw [e]
      unfold bfsC bfsL
      refine List.mem_flatMap.2 ⟨(k : Int), idxs_mem.2 ⟨k, hk, rfl, decide_eq_true rfl⟩, ?_⟩
      simp [usAll]) (fun k hk => by
      have : k = 0 := by simpa using hk
      subst this
      have e : ((s.toNat : Nat) : Int) = s := by have := hp.s0; omega
      show mhas _ ((s.toNat : Nat) : Int) = true
      rw [e]
      have := h.root
      exact this) t.toNat hr
    have e : ((t.toNat : Nat) : Int) = t := by have := hp.t0; omega
    rw [e] at this
    exact this
theorem eb_ends {g : Gr} {a b : Int} (h : 0 ≤ eb g a b) : (g.2.1.getD (eb g a b).toNat default).1 = a ∧ (g.2.1.getD (eb g a b).toNat default).2.1 = b ∧ eb g a b < g.2.1.length := by
  have h1 := idxOf_lt h
  unfold eb idxOf at *
  cases hf : g.2.1.findIdx? (isE a b) with
  | none => rw [hf] at h; simp at h
  | some i =>
    obtain ⟨h2, h3, _⟩ := List.findIdx?_eq_some_iff_getElem.1 hf
    have e : g.2.1.getD ((match (some i : Option Nat) with | some i => (i : Int) | none => -1)).toNat default = g.2.1[i] := by
      show g.2.1.getD i default = _
      rw [List.getD_eq_getElem?_getD, List.getElem?_eq_getElem h2]; rfl
    have h4 := of_decide_eq_true (show decide _ = true from h3)
    refine ⟨?_, ?_, ?_⟩
    · show (g.2.1.getD i default).1 = a
      rw [List.getD_eq_getElem?_getD, List.getElem?_eq_getElem h2]; exact h4.1
    · show (g.2.1.getD i default).2.1 = b
      rw [List.getD_eq_getElem?_getD, List.getElem?_eq_getElem h2]; exact h4.2
    · show (i : Int) < _
      omega
theorem hasI_iff {xs : List Int} {x : Int} : hasI xs x = true ↔ x ∈ xs := by
  unfold hasI
  rw [List.any_eq_true]
  exact ⟨fun ⟨y, hy, e⟩ => by rw [← of_decide_eq_true e]; exact hy, fun h => ⟨x, h, decide_eq_true rfl⟩⟩
end Go.Proofs.Ytmnbpamaiboghaa
