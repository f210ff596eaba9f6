/-
  The path that a search in breadth finds, in plain words.
-/
import Derived.Test.YtomjemikjnpinaaDoorSsFx
import Derived.Test.YtomjemikjnpinaaDoorSsFi
import Derived.Test.YtomjemikjnpinaaDoorSsGf
namespace Go.Proofs.YtomjemikjnpinaaDoor
set_option linter.unusedVariables false
set_option linter.unusedSimpArgs false
/-- The nodes from a node that was found back to the start. -/
structure ChOk (g : Gr) (us : Nat → Bool) (s : Int) (M : Pairs) (i : Nat) (c : List Int) : Prop where
  mem : ∀ x ∈ c, ∃ k, k ≤ i ∧ x = (M.getD k default).1
  nd : c.Nodup
  ne : 0 < c.length
  fst : c.getD 0 0 = (M.getD i default).1
  lst : c.getD (c.length - 1) 0 = s
  edge : ∀ q, q + 1 < c.length → ∃ e, e < g.2.1.length ∧ us e = true ∧ (g.2.1.getD e default).1 = c.getD (q + 1) 0 ∧ (g.2.1.getD e default).2.1 = c.getD q 0
  tail : ∀ q, q < c.length → chain M s 8 (c.getD q 0) = c.drop q
theorem chain_fuel {g : Gr} {us : Nat → Bool} {s : Int} {M : Pairs} (h : SrI (bfsC g us) (s, s) g.1 M) : ∀ (i : Nat), i < M.length → ∀ f f', i ≤ f → i ≤ f' → chain M s f (M.getD i default).1 = chain M s f' (M.getD i default).1 := by
  intro i
  induction i using Nat.strongRecOn with
  | _ i ih =>
    intro hi f f' hf hf'
    by_cases hs : (M.getD i default).1 = s
    · rw [hs, chain_at, chain_at]
    · obtain ⟨j, k, hj, hm, _⟩ := bfs_up h hi hs
      obtain ⟨f, rfl⟩ : ∃ f0, f = f0 + 1 := ⟨f - 1, by omega⟩
      obtain ⟨f', rfl⟩ : ∃ f0, f' = f0 + 1 := ⟨f' - 1, by omega⟩
      unfold chain
      rw [if_neg hs, if_neg hs, hm, ih j hj (by omega) f f' (by omega) (by omega)]
theorem ch_all {g : Gr} {us : Nat → Bool} {s : Int} {M : Pairs} (h : SrI (bfsC g us) (s, s) g.1 M) (h8 : M.length ≤ 8) : ∀ (i : Nat), i < M.length → ChOk g us s M i (chain M s 8 (M.getD i default).1) := by
  intro i
  induction i using Nat.strongRecOn with
  | _ i ih =>
    intro hi
    by_cases hs : (M.getD i default).1 = s
    · have e : chain M s 8 (M.getD i default).1 = [s] := by rw [hs, chain_at]
      have e2 := chain_at (m := M) (s := s) (f := 8)
      rw [e]
      refine ⟨fun x hx => ⟨i, Nat.le_refl _, ?_⟩, by simp, by simp, hs.symm, by simp, fun q hq => by simp at hq, fun q hq => ?_⟩
      · simp at hx; rw [hx, hs]
      · have : q = 0 := by simp at hq; omega
        subst this
        exact e2
    · obtain ⟨j, k, hj, hm, k1, k2, k3, k4⟩ := bfs_up h hi hs
      have I := ih j hj (by omega)
      have e : chain M s 8 (M.getD i default).1 = (M.getD i default).1 :: chain M s 8 (M.getD j default).1 := by
        have : chain M s 8 (M.getD i default).1 = (M.getD i default).1 :: chain M s 7 (mgetI M (M.getD i default).1) := by
          show (if (M.getD i default).1 = s then _ else _) = _
          rw [if_neg hs]
        rw [this, hm, chain_fuel h j (by omega) 7 8 (by omega) (by omega)]
      generalize hC : chain M s 8 (M.getD j default).1 = c at e I
      have hself := e
      rw [e]
      refine ⟨fun x hx => ?_, ?_, by simp, by simp, ?_, fun q hq => ?_, fun q hq => ?_⟩
      · rcases List.mem_cons.1 hx with rfl | hx
        · exact ⟨i, Nat.le_refl _, rfl⟩
        · obtain ⟨k, hk, e⟩ := I.mem x hx
          exact ⟨k, by omega, e⟩
      · rw [List.nodup_cons]
        refine ⟨fun hx => ?_, I.nd⟩
        obtain ⟨k, hk, e⟩ := I.mem _ hx
        have := key_inj h.nd hi (by omega) e
        omega
      · have := I.ne
        have e3 : ((M.getD i default).1 :: c).length - 1 = (c.length - 1) + 1 := by simp; omega
        rw [e3, List.getD_cons_succ]
        exact I.lst
      · cases q with
        | zero =>
          rw [List.getD_cons_succ, List.getD_cons_zero, I.fst]
          exact ⟨k, k1, k2, k3, k4⟩
        | succ q =>
          rw [List.getD_cons_succ, List.getD_cons_succ]
          exact I.edge q (by simp at hq; omega)
      · cases q with
        | zero => rw [List.getD_cons_zero]; exact hself
        | succ q =>
          rw [List.getD_cons_succ, List.drop_succ_cons]
          exact I.tail q (by simp at hq; omega)
/-- The chain from a node that was found. -/
theorem ch_of {g : Gr} {us : Nat → Bool} {s t : Int} (hv : ValidG g) (h0 : 0 ≤ s) (h1 : s < g.1) (ht : mhas (bfsM g us s) t = true) : ∃ i, i < (bfsM g us s).length ∧ ((bfsM g us s).getD i default).1 = t ∧ ChOk g us s (bfsM g us s) i (chain (bfsM g us s) s 8 t) := by
  have h := bfsM_inv (us := us) hv h0 h1
  obtain ⟨i, hi, e⟩ := has_at ht
  have := ch_all h (by have := h.len; have := hv.hi; omega) i hi
  rw [e] at this
  exact ⟨i, hi, e, this⟩
/-- A node is found if and only if it is reached. -/
theorem found_iff {g : Gr} {s t : Int} (hp : Pair g s t) : mhas (bfsM g usAll s) t = true ↔ (reachL g [s]).getD t.toNat false = true := by
  have hv := hp.v
  have h := bfsM_inv (us := usAll) hv hp.s0 hp.s1
  have hst : ∀ k, k < [s].length → 0 ≤ [s].getD k 0 ∧ [s].getD k 0 < g.1 := fun k hk => by
    have : k = 0 := by simpa using hk
    subst this; exact ⟨hp.s0, hp.s1⟩
  constructor
  · intro ht
    obtain ⟨i, hi, rfl⟩ := has_at ht
    clear ht hp
    induction i using Nat.strongRecOn with
    | _ i ih =>
      by_cases h0 : i = 0
      · subst h0
        rw [h.hd]
        exact reach_start (g := g) (l := [s]) hst (j := 0) (by simp)
      · obtain ⟨j, hj, hm⟩ := h.par i (by omega) hi
        obtain ⟨k, k1, k2, k3, k4⟩ := bfsC_mem hm
        have := reach_closed (l := [s]) hv k k1 (by
          show (reachL g [s]).getD (eAtT g k).1.toNat false = true
          unfold eAtT
          rw [k2]; exact ih j hj (by omega))
        rw [k4]
        exact this
  · intro hr
    have := reach_sound (g := g) (l := [s]) (P := fun b => mhas (bfsM g usAll s) (b : Int) = true) (fun k hk h1 => by
      have he := hv.ends hk
      have e1 : (((eAtT g k).1.toNat : Nat) : Int) = (eAtT g k).1 := by unfold eAtT; omega
      have e2 : (((eAtT g k).2.1.toNat : Nat) : Int) = (eAtT g k).2.1 := by unfold eAtT; omega
      rw [e1] at h1; rw [e2]
      obtain ⟨i, hi, e⟩ := has_at h1
      refine sr_over (C := bfsC g usAll) (r := (s, s)) ⟨hp.s0, hp.s1⟩ (bfsC_rng hv) hv.hi hi (p := ((eAtT g k).2.1, ((bfsM g usAll s).getD i default).1)) ?_
      show _ ∈ bfsC g usAll ((bfsM g usAll s).getD i default).1
      rw [e]
      unfold bfsC bfsL
      refine List.mem_flatMap.2 ⟨(k : Int), idxs_mem.2 ⟨k, hk, rfl, decide_eq_true rfl⟩, ?_⟩
      simp [usAll]) (fun k hk => by
      have : k = 0 := by simpa using hk
      subst this
      have e : ((s.toNat : Nat) : Int) = s := by have := hp.s0; omega
      show mhas _ ((s.toNat : Nat) : Int) = true
      rw [e]
      have := h.root
      exact this) t.toNat hr
    have e : ((t.toNat : Nat) : Int) = t := by have := hp.t0; omega
    rw [e] at this
    exact this
theorem getD_rev {xs : List Int} {i : Nat} (h : i < xs.length) : xs.reverse.getD i 0 = xs.getD (xs.length - 1 - i) 0 := by
  rw [List.getD_eq_getElem?_getD, List.getD_eq_getElem?_getD, List.getElem?_reverse h]
theorem eb_some {g : Gr} {a b : Int} {e : Nat} (he : e < g.2.1.length) (h1 : (g.2.1.getD e default).1 = a) (h2 : (g.2.1.getD e default).2.1 = b) : 0 ≤ eb g a b := by
  refine Classical.byContradiction (fun hn => ?_)
  have h3 : ∀ k, k < g.2.1.length → isE a b (g.2.1.getD k default) = false := by
    intro k hk
    cases hb : isE a b (g.2.1.getD k default) with
    | false => rfl
    | true =>
      have h4 : idxOf (isE a b) g.2.1 ≥ 0 := by
        unfold idxOf
        cases hf : g.2.1.findIdx? (isE a b) with
        | none =>
          have := List.findIdx?_eq_none_iff.1 hf (g.2.1.getD k default) (getD_mem hk)
          rw [hb] at this; cases this
        | some i => simp
      exact absurd h4 hn
  have := h3 e he
  unfold isE at this
  have := of_decide_eq_false this
  exact this ⟨h1, h2⟩
theorem hasI_iff {xs : List Int} {x : Int} : hasI xs x = true ↔ x ∈ xs := by
  unfold hasI
  rw [List.any_eq_true]
  exact ⟨fun ⟨y, hy, e⟩ => by rw [← of_decide_eq_true e]; exact hy, fun h => ⟨x, h, decide_eq_true rfl⟩⟩
theorem nodup_take {xs : List Int} (h : xs.Nodup) {i : Nat} (hi : i < xs.length) : hasI (xs.take i) (xs.getD i 0) = false := by
  cases hb : hasI (xs.take i) (xs.getD i 0) with
  | false => rfl
  | true =>
    exfalso
    have hm := hasI_iff.1 hb
    obtain ⟨j, hj, e⟩ := List.getElem_of_mem hm
    have hj' : j < i := by simp at hj; omega
    rw [List.getElem_take, List.getD_eq_getElem?_getD, List.getElem?_eq_getElem hi] at e
    have := (List.getElem_inj h).1 e
    omega
/-- The path that was found. -/
theorem spF_path {g : Gr} {us : Nat → Bool} {s t : Int} (hp : Pair g s t) (ht : mhas (bfsM g us s) t = true) : IsP g (spF g us s t) ∧ (spF g us s t).getD 0 0 = s ∧ (spF g us s t).getD ((spF g us s t).length - 1) 0 = t ∧
    (∀ q, q + 1 < (spF g us s t).length → ∃ e, e < g.2.1.length ∧ us e = true ∧ (g.2.1.getD e default).1 = (spF g us s t).getD q 0 ∧ (g.2.1.getD e default).2.1 = (spF g us s t).getD (q + 1) 0) := by
  have hv := hp.v
  obtain ⟨i, hi, e, C⟩ := ch_of hv hp.s0 hp.s1 ht
  have hI := bfsM_inv (us := us) hv hp.s0 hp.s1
  have e2 : spF g us s t = (chain (bfsM g us s) s 8 t).reverse := if_pos ht
  rw [e2]
  generalize chain (bfsM g us s) s 8 t = c at C e2
  have hne := C.ne
  have hl : c.reverse.length = c.length := List.length_reverse
  have hE : ∀ q, q + 1 < c.reverse.length → ∃ e, e < g.2.1.length ∧ us e = true ∧ (g.2.1.getD e default).1 = c.reverse.getD q 0 ∧ (g.2.1.getD e default).2.1 = c.reverse.getD (q + 1) 0 := fun q hq => by
    rw [hl] at hq
    obtain ⟨e, h1, h2, h3, h4⟩ := C.edge (c.length - 1 - (q + 1)) (by omega)
    refine ⟨e, h1, h2, ?_, ?_⟩
    · rw [h3, getD_rev (by omega)]
      have : c.length - 1 - (q + 1) + 1 = c.length - 1 - q := by omega
      rw [this]
    · rw [h4, getD_rev (by omega)]
  refine ⟨⟨hv, by omega, fun q hq => ⟨?_, ?_, nodup_take (List.pairwise_reverse.2 (C.nd.imp Ne.symm)) hq, fun h0 => ?_⟩⟩, ?_, ?_, hE⟩
  · have hm : c.reverse.getD q 0 ∈ c := List.mem_reverse.1 (getD_memI hq)
    obtain ⟨k, hk, ek⟩ := C.mem _ hm
    rw [ek, ← keys_getD (by omega)]
    exact (hI.rng _ (getD_memI (by rw [keys_len]; omega))).1
  · have hm : c.reverse.getD q 0 ∈ c := List.mem_reverse.1 (getD_memI hq)
    obtain ⟨k, hk, ek⟩ := C.mem _ hm
    have := (hI.rng _ (getD_memI (xs := keys (bfsM g us s)) (i := k) (by rw [keys_len]; omega))).2
    rw [ek, ← keys_getD (by omega)]
    omega
  · obtain ⟨e, h1, _, h3, h4⟩ := hE (q - 1) (by omega)
    have : q - 1 + 1 = q := by omega
    rw [this] at h4
    exact eb_some h1 h3 h4
  · rw [getD_rev (by omega)]; exact C.lst
  · rw [hl, getD_rev (by omega)]
    have : c.length - 1 - (c.length - 1) = 0 := by omega
    rw [this, C.fst, e]
/-- Every prefix of the path is the path to its last node. -/
theorem spF_prefix {g : Gr} {us : Nat → Bool} {s t : Int} (hp : Pair g s t) (ht : mhas (bfsM g us s) t = true) {q : Nat} (hq : q < (spF g us s t).length) :
    mhas (bfsM g us s) ((spF g us s t).getD q 0) = true ∧ (spF g us s ((spF g us s t).getD q 0)).length = q + 1 := by
  have hv := hp.v
  obtain ⟨i, hi, e, C⟩ := ch_of hv hp.s0 hp.s1 ht
  have e2 : spF g us s t = (chain (bfsM g us s) s 8 t).reverse := if_pos ht
  rw [e2] at hq ⊢
  generalize chain (bfsM g us s) s 8 t = c at C e2 hq
  have hne := C.ne
  rw [List.length_reverse] at hq
  rw [getD_rev hq]
  have hm : c.getD (c.length - 1 - q) 0 ∈ c := getD_memI (by omega)
  obtain ⟨k, hk, ek⟩ := C.mem _ hm
  have hm2 : mhas (bfsM g us s) (c.getD (c.length - 1 - q) 0) = true := by rw [ek]; exact has_mem (by omega)
  refine ⟨hm2, ?_⟩
  have e3 : spF g us s (c.getD (c.length - 1 - q) 0) = (chain (bfsM g us s) s 8 (c.getD (c.length - 1 - q) 0)).reverse := if_pos hm2
  rw [e3, C.tail _ (by omega), List.length_reverse, List.length_drop]
  omega
theorem minUp_pos {f : Nat → Int} : ∀ {n : Nat}, (∀ k, k < n → 1 ≤ f k) → 1 ≤ minUp f n := by
  intro n
  induction n with
  | zero => intro _; unfold minUp; omega
  | succ n ih =>
    intro h
    have h1 := ih (fun k hk => h k (by omega))
    have h2 := h n (by omega)
    unfold minUp
    omega
theorem pcap_pos {g : Gr} {p : List Int} (h : IsP g p) : 0 < pcap g p ↔ p.length ≠ 1 := by
  unfold pcap
  by_cases h1 : p.length ≠ 1
  · rw [if_pos ⟨isP_iff.2 h, h1⟩]
    have := minUp_pos (f := pc g p) (n := p.length - 1) (fun k hk => (pc_in h hk).1)
    constructor
    · intro _; exact h1
    · intro _; omega
  · rw [if_neg (fun hc => h1 hc.2)]
    constructor
    · intro h; omega
    · intro h; exact absurd h h1
theorem path_one {g : Gr} {p : List Int} {s t : Int} (h : IsP g p) (h0 : p.getD 0 0 = s) (h1 : p.getD (p.length - 1) 0 = t) : p.length ≠ 1 ↔ s ≠ t := by
  have hne := h.ne
  constructor
  · intro hl e
    have := (h.at_ (p.length - 1) (by omega)).2.2.1
    rw [h1, ← e, ← h0] at this
    have h3 : hasI (p.take (p.length - 1)) (p.getD 0 0) = true := hasI_at (i := 0) (by simp; omega) (by
      rw [List.getD_eq_getElem?_getD, List.getD_eq_getElem?_getD, List.getElem?_take, if_pos (by omega)])
    rw [h3] at this; cases this
  · intro hn hl
    rw [hl] at h1
    exact hn (h0.symm.trans h1)
end Go.Proofs.YtomjemikjnpinaaDoor
