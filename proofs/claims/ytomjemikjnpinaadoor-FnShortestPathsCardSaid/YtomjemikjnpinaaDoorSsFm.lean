/-
  A search in breadth, in plain words: entries (node, the node from which it was found), in the order in which they are found.
-/
import Derived.Test.YtomjemikjnpinaaDoorSsFl
namespace Go.Proofs.YtomjemikjnpinaaDoor
set_option linter.unusedVariables false
set_option linter.unusedSimpArgs false
abbrev Pairs := List (Int × Int)
def keys (m : Pairs) : List Int := m.map (·.1)
theorem keys_len (m : Pairs) : (keys m).length = m.length := by simp [keys]
theorem keys_getD {m : Pairs} {i : Nat} (h : i < m.length) : (keys m).getD i 0 = (m.getD i default).1 := by
  simp [keys, List.getD_eq_getElem?_getD, List.getElem?_eq_getElem h]
theorem getD_mem {X : Type} [Inhabited X] {l : List X} {i : Nat} (h : i < l.length) : l.getD i default ∈ l := by
  rw [List.getD_eq_getElem?_getD, List.getElem?_eq_getElem h]; exact List.getElem_mem h
theorem mem_at {X : Type} [Inhabited X] {l : List X} {x : X} (h : x ∈ l) : ∃ i, i < l.length ∧ l.getD i default = x := by
  obtain ⟨i, hi, rfl⟩ := List.getElem_of_mem h
  exact ⟨i, hi, by rw [List.getD_eq_getElem?_getD, List.getElem?_eq_getElem hi]; rfl⟩
theorem mfind_none {α : Type} {m : List (Int × α)} {x : Int} : mfind m x = none ↔ x ∉ m.map (·.1) := by
  induction m with
  | nil => simp [mfind]
  | cons p m ih =>
    unfold mfind
    by_cases e : x = p.1
    · simp [e]
    · rw [if_neg e, ih]; simp [e]
theorem mhas_iff {α : Type} {m : List (Int × α)} {x : Int} : mhas m x = true ↔ x ∈ m.map (·.1) := by
  unfold mhas
  cases h : mfind m x with
  | none => simp only [Option.isSome_none]; have := mfind_none.1 h; simp [this]
  | some v =>
    simp only [Option.isSome_some, true_iff]
    exact Classical.byContradiction (fun hn => by rw [mfind_none.2 hn] at h; cases h)
theorem mset_new {α : Type} {m : List (Int × α)} {x : Int} {v : α} (h : ¬ mhas m x = true) : mset m x v = m ++ [(x, v)] := by
  induction m with
  | nil => rfl
  | cons p m ih =>
    rw [mhas_iff] at h
    simp at h
    unfold mset
    rw [if_neg h.1, ih (by rw [mhas_iff]; simpa using h.2)]
    rfl
theorem mgetI_at {m : Pairs} (hn : (keys m).Nodup) {i : Nat} (h : i < m.length) : mgetI m (m.getD i default).1 = (m.getD i default).2 := by
  unfold mgetI
  induction m generalizing i with
  | nil => cases h
  | cons p m ih =>
    simp only [keys, List.map_cons, List.nodup_cons] at hn
    unfold mfind
    cases i with
    | zero => simp
    | succ i =>
      have hi : i < m.length := by simpa using h
      have e : (p :: m).getD (i + 1) default = m.getD i default := by simp
      rw [e, if_neg (fun e2 => hn.1 (by rw [← e2]; exact List.mem_map.2 ⟨_, getD_mem hi, rfl⟩))]
      exact ih hn.2 hi
theorem nodup_le : ∀ (n : Nat) (l : List Int), l.Nodup → (∀ x ∈ l, 0 ≤ x ∧ x < n) → l.length ≤ n := by
  intro n
  induction n with
  | zero =>
    intro l _ h
    cases l with
    | nil => simp
    | cons x l => have := h x (by simp); omega
  | succ n ih =>
    intro l hn h
    by_cases hm : (n : Int) ∈ l
    · have h1 := ih (l.erase n) (hn.erase (n : Int)) (fun x hx => by
        have h2 := (hn.mem_erase_iff).1 hx
        have := h x h2.2
        have h3 : x ≠ (n : Int) := h2.1
        omega)
      rw [List.length_erase_of_mem hm] at h1
      omega
    · have := ih l hn (fun x hx => by
        have := h x hx
        have h3 : x ≠ (n : Int) := fun e => hm (e ▸ hx)
        omega)
      omega

theorem getD_app1 {X : Type} [Inhabited X] {l : List X} {x : X} {i : Nat} (h : i < l.length) : (l ++ [x]).getD i default = l.getD i default := by
  simp [List.getD_eq_getElem?_getD, List.getElem?_append_left h]
theorem getD_app2 {X : Type} [Inhabited X] {l : List X} {x : X} : (l ++ [x]).getD l.length default = x := by
  simp [List.getD_eq_getElem?_getD]
theorem ValidG.ends {g : Gr} (h : ValidG g) {i : Nat} (hi : i < g.2.1.length) : 0 ≤ (g.2.1.getD i default).1 ∧ (g.2.1.getD i default).1 < g.1 ∧ 0 ≤ (g.2.1.getD i default).2.1 ∧ (g.2.1.getD i default).2.1 < g.1 ∧ (g.2.1.getD i default).1 ≠ (g.2.1.getD i default).2.1 := by
  have := h.edge i hi
  simp only [EdgeOk] at this
  omega
theorem keys_app (m : Pairs) (p : Int × Int) : keys (m ++ [p]) = keys m ++ [p.1] := by simp [keys]
/-- A node that is not found yet is found. -/
def addC (m : Pairs) (p : Int × Int) : Pairs := if mhas m p.1 = true then m else m ++ [p]
def addAll (m : Pairs) (l : Pairs) : Pairs := l.foldl addC m
theorem addAll_app (m l : Pairs) (p : Int × Int) : addAll m (l ++ [p]) = addC (addAll m l) p := by simp [addAll]
theorem addC_new {m : Pairs} {p : Int × Int} (h : ¬ mhas m p.1 = true) : addC m p = m ++ [p] := if_neg h
theorem addC_old {m : Pairs} {p : Int × Int} (h : mhas m p.1 = true) : addC m p = m := if_pos h
/-- A search: C a, what may be found from node a; r, where it begins; the first k nodes looked at. -/
def sr (C : Int → Pairs) (r : Int × Int) : Nat → Pairs
  | 0 => [r]
  | k + 1 => if k < (sr C r k).length then addAll (sr C r k) (C ((sr C r k).getD k default).1) else sr C r k
structure SrI (C : Int → Pairs) (r : Int × Int) (n : Int) (m : Pairs) : Prop where
  nd : (keys m).Nodup
  pos : 0 < m.length
  hd : m.getD 0 default = r
  rng : ∀ x ∈ keys m, 0 ≤ x ∧ x < n
  par : ∀ i, 0 < i → i < m.length → ∃ j, j < i ∧ m.getD i default ∈ C (m.getD j default).1
theorem addC_ext {m : Pairs} {p : Int × Int} {i : Nat} (h : i < m.length) : m.length ≤ (addC m p).length ∧ (addC m p).getD i default = m.getD i default := by
  unfold addC
  split
  · exact ⟨Nat.le_refl _, rfl⟩
  · exact ⟨by simp, getD_app1 h⟩
theorem addAll_ext {i : Nat} : ∀ {l m : Pairs}, i < m.length → m.length ≤ (addAll m l).length ∧ (addAll m l).getD i default = m.getD i default := by
  intro l
  induction l with
  | nil => intro m h; exact ⟨Nat.le_refl _, rfl⟩
  | cons p l ih =>
    intro m h
    have h1 := addC_ext (p := p) h
    have h2 := ih (m := addC m p) (Nat.lt_of_lt_of_le h h1.1)
    exact ⟨Nat.le_trans h1.1 h2.1, h2.2.trans h1.2⟩
theorem addC_inv {C : Int → Pairs} {r : Int × Int} {n : Int} {m : Pairs} {p : Int × Int} {j : Nat} (h : SrI C r n m) (hj : j < m.length) (hp : p ∈ C (m.getD j default).1) (hr : 0 ≤ p.1 ∧ p.1 < n) : SrI C r n (addC m p) := by
  unfold addC
  split
  · exact h
  · rename_i h2
    rw [mhas_iff] at h2
    refine ⟨?_, by simp, by rw [getD_app1 h.pos]; exact h.hd, fun x hx => ?_, fun i h0 hi => ?_⟩
    · rw [keys_app, List.nodup_append]
      exact ⟨h.nd, by simp, fun x hx y hy => by simp at hy; rw [hy]; exact fun e => h2 (e ▸ hx)⟩
    · rw [keys_app] at hx
      rcases List.mem_append.1 hx with hx | hx
      · exact h.rng x hx
      · simp only [List.mem_singleton] at hx; rw [hx]; exact hr
    · by_cases e : i = m.length
      · subst e
        exact ⟨j, hj, by rw [getD_app2, getD_app1 hj]; exact hp⟩
      · have hi' : i < m.length := by simp at hi; omega
        obtain ⟨j', g1, g2⟩ := h.par i h0 hi'
        exact ⟨j', g1, by rw [getD_app1 hi', getD_app1 (by omega)]; exact g2⟩
theorem addAll_inv {C : Int → Pairs} {r : Int × Int} {n a : Int} {j : Nat} : ∀ {l m : Pairs}, SrI C r n m → j < m.length → (m.getD j default).1 = a → (∀ p ∈ l, p ∈ C a ∧ 0 ≤ p.1 ∧ p.1 < n) → SrI C r n (addAll m l) := by
  intro l
  induction l with
  | nil => intro m h _ _ _; exact h
  | cons p l ih =>
    intro m h hj ha hl
    have h1 := addC_ext (p := p) hj
    exact ih (addC_inv h hj (by rw [ha]; exact (hl p (by simp)).1) (hl p (by simp)).2) (Nat.lt_of_lt_of_le hj h1.1) (by rw [h1.2]; exact ha) (fun q hq => hl q (by simp [hq]))
theorem sr_inv {C : Int → Pairs} {r : Int × Int} {n : Int} (h0 : 0 ≤ r.1 ∧ r.1 < n) (hC : ∀ a, ∀ p ∈ C a, 0 ≤ p.1 ∧ p.1 < n) : ∀ {k : Nat}, SrI C r n (sr C r k) := by
  intro k
  induction k with
  | zero => exact ⟨by simp [sr, keys], by simp [sr], rfl, fun x hx => by simp [sr, keys] at hx; rw [hx]; exact h0, fun i h hi => by simp [sr] at hi; omega⟩
  | succ k ih =>
    unfold sr
    split
    · rename_i hk
      exact addAll_inv ih hk rfl (fun p hp => ⟨hp, hC _ p hp⟩)
    · exact ih
theorem SrI.len {C : Int → Pairs} {r : Int × Int} {n : Int} {m : Pairs} (h : SrI C r n m) : m.length ≤ n.toNat := by
  have := nodup_le n.toNat (keys m) h.nd (fun x hx => by have := h.rng x hx; omega)
  rwa [keys_len] at this
theorem sr_stop {C : Int → Pairs} {r : Int × Int} {k j : Nat} (h : (sr C r k).length ≤ k) (hj : k ≤ j) : sr C r j = sr C r k := by
  induction j with
  | zero => have : k = 0 := by omega
            rw [this]
  | succ j ih =>
    by_cases e : k = j + 1
    · rw [e]
    · have h1 := ih (by omega)
      show (if j < (sr C r j).length then _ else sr C r j) = _
      rw [h1, if_neg (by omega)]
/-- All that is found. -/
def srM (C : Int → Pairs) (r : Int × Int) : Pairs := sr C r 8
theorem srM_eq {C : Int → Pairs} {r : Int × Int} {n : Int} (h0 : 0 ≤ r.1 ∧ r.1 < n) (hC : ∀ a, ∀ p ∈ C a, 0 ≤ p.1 ∧ p.1 < n) (hn : n ≤ 8) {k : Nat} (h : (sr C r k).length ≤ k) : sr C r k = srM C r := by
  have h2 := (sr_inv h0 hC (k := 8)).len
  by_cases e : k ≤ 8
  · exact (sr_stop h e).symm
  · exact sr_stop (show (sr C r 8).length ≤ 8 by omega) (by omega)
/-- Found by a search that is over: all that may be found from a node that is found. -/
theorem addAll_has {x : Int} : ∀ {l m : Pairs}, (mhas m x = true ∨ ∃ p ∈ l, p.1 = x) → mhas (addAll m l) x = true := by
  intro l
  induction l with
  | nil => intro m h; exact h.elim id (fun ⟨p, hp, _⟩ => by cases hp)
  | cons p l ih =>
    intro m h
    refine ih (m := addC m p) ?_
    by_cases e : p.1 = x
    · left
      unfold addC
      split
      · rw [← e]; assumption
      · rw [mhas_iff]; simp [e]
    · rcases h with h | ⟨q, hq, hx⟩
      · left
        unfold addC
        split
        · exact h
        · rw [mhas_iff] at h ⊢; simp at h ⊢; exact .inl h
      · rcases List.mem_cons.1 hq with rfl | hq
        · exact absurd hx e
        · exact .inr ⟨q, hq, hx⟩
/-- From a node back to s. -/
def chain (m : Pairs) (s : Int) : Nat → Int → List Int
  | 0, a => [a]
  | n + 1, a => if a = s then [a] else a :: chain m s n (mgetI m a)
theorem chain_at {m : Pairs} {s : Int} : ∀ {f : Nat}, chain m s f s = [s] := by
  intro f; cases f <;> simp [chain]
theorem chain_len {m : Pairs} {s : Int} : ∀ {f : Nat} {a : Int}, (chain m s f a).length ≤ f + 1 := by
  intro f
  induction f with
  | zero => intro a; simp [chain]
  | succ f ih => intro a; unfold chain; split <;> simp; exact ih
/-- Search in breadth over the edges that may be used. -/
def bfsL (g : Gr) (us : Nat → Bool) (a : Int) (l : List Int) : Pairs := l.flatMap fun x => if us x.toNat = true then [((g.2.1.getD x.toNat default).2.1, a)] else []
def bfsC (g : Gr) (us : Nat → Bool) (a : Int) : Pairs := bfsL g us a (eFrom g a)
theorem bfsC_mem {g : Gr} {us : Nat → Bool} {a : Int} {p : Int × Int} (h : p ∈ bfsC g us a) : ∃ k, k < g.2.1.length ∧ (g.2.1.getD k default).1 = a ∧ us k = true ∧ p = ((g.2.1.getD k default).2.1, a) := by
  unfold bfsC bfsL at h
  obtain ⟨x, h1, h2⟩ := List.mem_flatMap.1 h
  obtain ⟨i, h3, rfl, h4⟩ := idxs_mem.1 h1
  have e : ((i : Int)).toNat = i := rfl
  rw [e] at h2
  split at h2
  · exact ⟨i, h3, of_decide_eq_true h4, by assumption, by simpa using h2⟩
  · cases h2
theorem bfsC_rng {g : Gr} {us : Nat → Bool} (hv : ValidG g) : ∀ a, ∀ p ∈ bfsC g us a, 0 ≤ p.1 ∧ p.1 < g.1 := by
  intro a p hp
  obtain ⟨k, h1, _, _, rfl⟩ := bfsC_mem hp
  have := hv.ends h1
  exact ⟨this.2.2.1, this.2.2.2.1⟩
def bfsM (g : Gr) (us : Nat → Bool) (s : Int) : Pairs := srM (bfsC g us) (s, s)
def spF (g : Gr) (us : Nat → Bool) (s t : Int) : List Int := if mhas (bfsM g us s) t = true then (chain (bfsM g us s) s 8 t).reverse else []
/-- The node before a node that was found. -/
theorem bfs_up {g : Gr} {us : Nat → Bool} {s : Int} {m : Pairs} (h : SrI (bfsC g us) (s, s) g.1 m) {i : Nat} (hi : i < m.length) (hs : (m.getD i default).1 ≠ s) : ∃ j k, j < i ∧ mgetI m (m.getD i default).1 = (m.getD j default).1 ∧ k < g.2.1.length ∧ us k = true ∧ (g.2.1.getD k default).1 = (m.getD j default).1 ∧ (g.2.1.getD k default).2.1 = (m.getD i default).1 := by
  have h0 : 0 < i := by
    cases i with
    | zero => rw [h.hd] at hs; exact absurd rfl hs
    | succ i => omega
  obtain ⟨j, g1, g2⟩ := h.par i h0 hi
  obtain ⟨k, k1, k2, k3, k4⟩ := bfsC_mem g2
  refine ⟨j, k, g1, ?_, k1, k3, k2, ?_⟩
  · rw [mgetI_at h.nd hi, k4]
  · rw [k4]
end Go.Proofs.YtomjemikjnpinaaDoor
