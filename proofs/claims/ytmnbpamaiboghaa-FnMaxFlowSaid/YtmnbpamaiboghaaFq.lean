/-
  The greatest flow, in plain words: the search for a way along which more can flow, and what is added.
-/
import Derived.Test.YtmnbpamaiboghaaFp
namespace Go.Proofs.Ytmnbpamaiboghaa
set_option linter.unusedVariables false
set_option linter.unusedSimpArgs false
abbrev eAt (g : Gr) (k : Nat) : Edg := g.2.1.getD k default
/-- Found over edges of a list: forwards, backwards. The entry: (the node, the edge). -/
def fwdL (g : Gr) (f : List Int) (l : List Int) : Pairs := l.flatMap fun x => if f.getD x.toNat 0 < (eAt g x.toNat).2.2.1 then [((eAt g x.toNat).2.1, x)] else []
def bwdL (g : Gr) (f : List Int) (l : List Int) : Pairs := l.flatMap fun x => if 0 < f.getD x.toNat 0 then [((eAt g x.toNat).1, x)] else []
def mfC (g : Gr) (f : List Int) (a : Int) : Pairs := fwdL g f (eFrom g a) ++ bwdL g f (eTo g a)
/-- Edge k leads from a to b, or from b to a, and may carry more, or less. -/
def Way (g : Gr) (f : List Int) (a b : Int) (k : Nat) : Prop :=
  k < g.2.1.length ∧ ((eAt g k).1 = a ∧ (eAt g k).2.1 = b ∧ f.getD k 0 < (eAt g k).2.2.1 ∨ (eAt g k).2.1 = a ∧ (eAt g k).1 = b ∧ 0 < f.getD k 0)
theorem mfC_mem {g : Gr} {f : List Int} {a : Int} {p : Int × Int} (h : p ∈ mfC g f a) : ∃ k : Nat, p.2 = (k : Int) ∧ Way g f a p.1 k := by
  unfold mfC at h
  rcases List.mem_append.1 h with h | h
  · obtain ⟨x, h1, h2⟩ := List.mem_flatMap.1 h
    obtain ⟨i, h3, rfl, h4⟩ := idxs_mem.1 h1
    have e : ((i : Int)).toNat = i := rfl
    rw [e] at h2
    split at h2
    · obtain rfl : p = ((eAt g i).2.1, (i : Int)) := by simpa using h2
      exact ⟨i, rfl, h3, .inl ⟨of_decide_eq_true h4, rfl, by assumption⟩⟩
    · cases h2
  · obtain ⟨x, h1, h2⟩ := List.mem_flatMap.1 h
    obtain ⟨i, h3, rfl, h4⟩ := idxs_mem.1 h1
    have e : ((i : Int)).toNat = i := rfl
    rw [e] at h2
    split at h2
    · obtain rfl : p = ((eAt g i).1, (i : Int)) := by simpa using h2
      exact ⟨i, rfl, h3, .inr ⟨of_decide_eq_true h4, rfl, by assumption⟩⟩
    · cases h2
theorem mfC_rng {g : Gr} {f : List Int} (hv : ValidG g) : ∀ a, ∀ p ∈ mfC g f a, 0 ≤ p.1 ∧ p.1 < g.1 := by
  intro a p hp
  obtain ⟨k, _, h1, h2⟩ := mfC_mem hp
  have := hv.ends h1
  unfold eAt at h2
  omega
theorem mfC_of {g : Gr} {f : List Int} {a b : Int} {k : Nat} (h : Way g f a b k) : (b, (k : Int)) ∈ mfC g f a := by
  obtain ⟨h1, h2⟩ := h
  unfold mfC
  rcases h2 with ⟨h2, h3, h4⟩ | ⟨h2, h3, h4⟩
  · refine List.mem_append.2 (.inl (List.mem_flatMap.2 ⟨k, idxs_mem.2 ⟨k, h1, rfl, decide_eq_true h2⟩, ?_⟩))
    have e : ((k : Int)).toNat = k := rfl
    rw [e, if_pos h4, h3]; simp
  · refine List.mem_append.2 (.inr (List.mem_flatMap.2 ⟨k, idxs_mem.2 ⟨k, h1, rfl, decide_eq_true h2⟩, ?_⟩))
    have e : ((k : Int)).toNat = k := rfl
    rw [e, if_pos h4, h3]; simp
def mfM (g : Gr) (f : List Int) (s : Int) : Pairs := srM (mfC g f) (s, -1)
theorem mfM_inv {g : Gr} {f : List Int} {s : Int} (hv : ValidG g) (h0 : 0 ≤ s) (h1 : s < g.1) : SrI (mfC g f) (s, -1) g.1 (mfM g f s) := sr_inv ⟨h0, h1⟩ (mfC_rng hv)
/-- The search is over. -/
theorem sr_over {C : Int → Pairs} {r : Int × Int} {n : Int} (h0 : 0 ≤ r.1 ∧ r.1 < n) (hC : ∀ a, ∀ p ∈ C a, 0 ≤ p.1 ∧ p.1 < n) (hn : n ≤ 8) {i : Nat} (hi : i < (srM C r).length) {p : Int × Int} (hp : p ∈ C ((srM C r).getD i default).1) : mhas (srM C r) p.1 = true := by
  have hl := (sr_inv h0 hC (k := 8)).len
  have hi8 : i < 8 := by have : (srM C r).length ≤ n.toNat := hl; omega
  -- node i is looked at in round i + 1
  have ext : ∀ k j, k ≤ j → ∀ i, i < (sr C r k).length → i < (sr C r j).length ∧ (sr C r j).getD i default = (sr C r k).getD i default := by
    intro k j hkj
    induction j with
    | zero => intro i h; have : k = 0 := by omega
              rw [this] at h ⊢; exact ⟨h, rfl⟩
    | succ j ih =>
      intro i h
      by_cases e : k = j + 1
      · rw [e] at h ⊢; exact ⟨h, rfl⟩
      · obtain ⟨h1, h2⟩ := ih (by omega) i h
        show i < (if j < (sr C r j).length then addAll (sr C r j) (C ((sr C r j).getD j default).1) else sr C r j).length ∧ (if j < (sr C r j).length then addAll (sr C r j) (C ((sr C r j).getD j default).1) else sr C r j).getD i default = _
        split
        · have := addAll_ext (l := C ((sr C r j).getD j default).1) h1
          exact ⟨by omega, this.2.trans h2⟩
        · exact ⟨h1, h2⟩
  have hasx : ∀ k j, k ≤ j → ∀ x, mhas (sr C r k) x = true → mhas (sr C r j) x = true := by
    intro k j hkj x hx
    rw [mhas_iff] at hx ⊢
    obtain ⟨q, hq, rfl⟩ := List.mem_map.1 hx
    obtain ⟨i, hi, rfl⟩ := mem_at hq
    obtain ⟨h1, h2⟩ := ext k j hkj i hi
    exact List.mem_map.2 ⟨_, getD_mem h1, by rw [h2]⟩
  by_cases hlen : i < (sr C r i).length
  · have e := (ext i 8 (by omega) i hlen).2
    have h1 : sr C r (i + 1) = addAll (sr C r i) (C ((sr C r i).getD i default).1) := if_pos hlen
    have h2 : mhas (sr C r (i + 1)) p.1 = true := by
      rw [h1]
      refine addAll_has (.inr ⟨p, ?_, rfl⟩)
      rw [← e]; exact hp
    exact hasx (i + 1) 8 (by omega) _ h2
  · have e := sr_stop (C := C) (r := r) (k := i) (j := 8) (by omega) (by omega)
    have : (srM C r).length = (sr C r i).length := by unfold srM; rw [e]
    omega
theorem mgetI_up {g : Gr} {f : List Int} {s : Int} {m : Pairs} (h : SrI (mfC g f) (s, -1) g.1 m) {i : Nat} (hi : i < m.length) (hs : (m.getD i default).1 ≠ s) :
    ∃ (j k : Nat), j < i ∧ (m.getD i default).2 = (k : Int) ∧ mgetI m (m.getD i default).1 = (k : Int) ∧ Way g f (m.getD j default).1 (m.getD i default).1 k := by
  have h0 : 0 < i := by
    cases i with
    | zero => rw [h.hd] at hs; exact absurd rfl hs
    | succ i => omega
  obtain ⟨j, g1, g2⟩ := h.par i h0 hi
  obtain ⟨k, k1, k2⟩ := mfC_mem g2
  exact ⟨j, k, g1, k1, by rw [mgetI_at h.nd hi, k1], k2⟩
/-- One step back along the way that was found. -/
def augS (g : Gr) (m : Pairs) (a : Int) (f : List Int) : List Int × Int :=
  if (eAt g (mgetI m a).toNat).2.1 = a then (f.set (mgetI m a).toNat (f.getD (mgetI m a).toNat 0 + 1), (eAt g (mgetI m a).toNat).1)
  else (f.set (mgetI m a).toNat (f.getD (mgetI m a).toNat 0 - 1), (eAt g (mgetI m a).toNat).2.1)
def aug (g : Gr) (m : Pairs) (s : Int) : Nat → Int → List Int → List Int
  | 0, _, f => f
  | n + 1, a, f => if a = s then f else aug g m s n (augS g m a f).2 (augS g m a f).1
theorem getD_set_ne {xs : List Int} {i j : Nat} {v : Int} (h : i ≠ j) : (xs.set i v).getD j 0 = xs.getD j 0 := by simp [List.getD_eq_getElem?_getD, List.getElem?_set_ne h]
theorem getD_set_eq {xs : List Int} {i : Nat} {v : Int} (h : i < xs.length) : (xs.set i v).getD i 0 = v := by simp [List.getD_eq_getElem?_getD, h]
theorem sumIf_set {φ : Edg → Bool} {es : List Edg} {f : List Int} {k : Nat} {v : Int} (hk : k < f.length) : ∀ {n : Nat}, sumIf φ es (f.set k v) n = sumIf φ es f n + if k < n ∧ φ (es.getD k default) = true then v - f.getD k 0 else 0 := by
  intro n
  induction n with
  | zero => simp [sumIf]
  | succ n ih =>
    unfold sumIf
    rw [ih]
    by_cases e : k = n
    · subst e
      have e1 : (f.set k v).getD k 0 = v := by simp [List.getD_eq_getElem?_getD, hk]
      rw [e1]
      by_cases hφ : φ (es.getD k default) = true
      · rw [if_neg (fun h : k < k ∧ _ => by omega), if_pos (c := k < k + 1 ∧ φ (es.getD k default) = true) ⟨by omega, hφ⟩, if_pos hφ, if_pos hφ]; omega
      · rw [if_neg (fun h : k < k ∧ _ => by omega), if_neg (c := k < k + 1 ∧ φ (es.getD k default) = true) (fun h => hφ h.2), if_neg hφ, if_neg hφ]
    · have e1 : (f.set k v).getD n 0 = f.getD n 0 := by simp [List.getD_eq_getElem?_getD, List.getElem?_set_ne e]
      rw [e1]
      by_cases hc : k < n ∧ φ (es.getD k default) = true
      · rw [if_pos hc, if_pos (c := k < n + 1 ∧ φ (es.getD k default) = true) ⟨by omega, hc.2⟩]; omega
      · rw [if_neg hc, if_neg (c := k < n + 1 ∧ φ (es.getD k default) = true) (fun h => hc ⟨by omega, h.2⟩)]; omega
theorem netS_set {g : Gr} {f : List Int} {k : Nat} {v b : Int} (hk : k < f.length) (hl : f.length = g.2.1.length) :
    netS g (f.set k v) b g.2.1.length = netS g f b g.2.1.length + (if (eAt g k).1 = b then v - f.getD k 0 else 0) - (if (eAt g k).2.1 = b then v - f.getD k 0 else 0) := by
  unfold netS
  rw [sumIf_set hk, sumIf_set hk]
  have e1 : (k < g.2.1.length ∧ fromB b (g.2.1.getD k default) = true) ↔ (eAt g k).1 = b := ⟨fun h => of_decide_eq_true h.2, fun h => ⟨by omega, decide_eq_true h⟩⟩
  have e2 : (k < g.2.1.length ∧ toB b (g.2.1.getD k default) = true) ↔ (eAt g k).2.1 = b := ⟨fun h => of_decide_eq_true h.2, fun h => ⟨by omega, decide_eq_true h⟩⟩
  simp only [e1, e2]
  omega
/-- Amounts within the capacities. -/
structure FlowOk (g : Gr) (f : List Int) : Prop where
  len : f.length = g.2.1.length
  rng : ∀ k, k < f.length → 0 ≤ f.getD k 0 ∧ f.getD k 0 ≤ (eAt g k).2.2.1
theorem FlowOk.small {g : Gr} {f : List Int} (hv : ValidG g) (h : FlowOk g f) : Small f := small_of hv h.len h.rng
theorem key_inj {m : Pairs} (h : (keys m).Nodup) {i j : Nat} (hi : i < m.length) (hj : j < m.length) (e : (m.getD i default).1 = (m.getD j default).1) : i = j := by
  rw [← keys_getD hi, ← keys_getD hj, List.getD_eq_getElem?_getD, List.getD_eq_getElem?_getD] at e
  have hi' : i < (keys m).length := by rw [keys_len]; exact hi
  have hj' : j < (keys m).length := by rw [keys_len]; exact hj
  rw [List.getElem?_eq_getElem hi', List.getElem?_eq_getElem hj'] at e
  exact (List.getElem_inj h).1 e
/-- Half way back: at node i of the search. -/
structure Half (g : Gr) (f : List Int) (s t : Int) (m : Pairs) (i : Nat) (f' : List Int) : Prop where
  ok : FlowOk g f'
  at_ : i < m.length
  old : ∀ i', i' ≤ i → 0 < i' → f'.getD (m.getD i' default).2.toNat 0 = f.getD (m.getD i' default).2.toNat 0
  net : ∀ b, netS g f' b g.2.1.length = netS g f b g.2.1.length + (if (m.getD i default).1 = b then 1 else 0) - (if t = b then 1 else 0)
theorem half_step {g : Gr} {f : List Int} {s t : Int} {m : Pairs} {i : Nat} {f' : List Int} (hv : ValidG g) (hI : SrI (mfC g f) (s, -1) g.1 m) (hf : f.length = g.2.1.length) (h : Half g f s t m i f') (hs : (m.getD i default).1 ≠ s) :
    ∃ j, j < i ∧ (augS g m (m.getD i default).1 f').2 = (m.getD j default).1 ∧ Half g f s t m j (augS g m (m.getD i default).1 f').1 ∧ 0 ≤ mgetI m (m.getD i default).1 ∧ mgetI m (m.getD i default).1 < g.2.1.length := by
  obtain ⟨j, k, hj, hk, hg, hw⟩ := mgetI_up hI h.at_ hs
  have hi0 : 0 < i := by omega
  obtain ⟨hw0, hw⟩ := hw
  have hends := hv.ends hw0
  have hold := h.old i (Nat.le_refl _) hi0
  have hkn : (m.getD i default).2.toNat = k := by rw [hk]; rfl
  rw [hkn] at hold
  have hkl : k < f'.length := by rw [h.ok.len]; exact hw0
  have hrk := h.ok.rng k hkl
  have hgn : (mgetI m (m.getD i default).1).toNat = k := by rw [hg]; rfl
  have other : ∀ i', i' ≤ j → 0 < i' → (m.getD i' default).2.toNat ≠ k := by
    intro i' h1 h2 e
    have hne : (m.getD i' default).1 ≠ s := fun e2 => by
      have := key_inj hI.nd (i := i') (j := 0) (by have := h.at_; omega) hI.pos (by rw [e2, hI.hd])
      omega
    obtain ⟨j', k', g1, g2, _, g3⟩ := mgetI_up hI (i := i') (by have := h.at_; omega) hne
    have : k' = k := by rw [g2] at e; simpa using e
    subst this
    have n1 : (m.getD i' default).1 ≠ (m.getD i default).1 := fun e2 => by have := key_inj hI.nd (by have := h.at_; omega) h.at_ e2; omega
    have n2 : (m.getD j' default).1 ≠ (m.getD i default).1 := fun e2 => by have := key_inj hI.nd (by have := h.at_; omega) h.at_ e2; omega
    rcases g3.2 with ⟨a1, a2, _⟩ | ⟨a1, a2, _⟩ <;> rcases hw with ⟨b1, b2, _⟩ | ⟨b1, b2, _⟩ <;> omega
  have keep : ∀ v, ∀ i', i' ≤ j → 0 < i' → (f'.set k v).getD (m.getD i' default).2.toNat 0 = f.getD (m.getD i' default).2.toNat 0 := by
    intro v i' h1 h2
    have hne := other i' h1 h2
    rw [getD_set_ne (Ne.symm hne)]
    exact h.old i' (by omega) h2
  have rng : ∀ v, 0 ≤ v → v ≤ (eAt g k).2.2.1 → FlowOk g (f'.set k v) := fun v h1 h2 => by
    refine ⟨by rw [List.length_set]; exact h.ok.len, fun k' hk' => ?_⟩
    rw [List.length_set] at hk'
    by_cases e : k = k'
    · subst e
      have e1 : (f'.set k v).getD k 0 = v := by simp [List.getD_eq_getElem?_getD, hk']
      rw [e1]; exact ⟨h1, h2⟩
    · have e1 : (f'.set k v).getD k' 0 = f'.getD k' 0 := by simp [List.getD_eq_getElem?_getD, List.getElem?_set_ne e]
      rw [e1]; exact h.ok.rng k' hk'
  refine ⟨j, hj, ?_⟩
  unfold augS
  rw [hgn, hg]
  rcases hw with ⟨w1, w2, w3⟩ | ⟨w1, w2, w3⟩
  · rw [if_pos w2]
    refine ⟨w1, ⟨rng _ (by omega) (by omega), by have := h.at_; omega, keep _, fun b => ?_⟩, by omega, by omega⟩
    rw [netS_set hkl h.ok.len, h.net b, w1, w2]
    split <;> split <;> omega
  · rw [if_neg (by unfold eAt at *; omega)]
    refine ⟨w1, ⟨rng _ (by omega) (by omega), by have := h.at_; omega, keep _, fun b => ?_⟩, by omega, by omega⟩
    rw [netS_set hkl h.ok.len, h.net b, w1, w2]
    split <;> split <;> omega
theorem aug_spec {g : Gr} {f : List Int} {s t : Int} {m : Pairs} (hv : ValidG g) (hI : SrI (mfC g f) (s, -1) g.1 m) (hf : f.length = g.2.1.length) : ∀ {n i : Nat} {f' : List Int}, Half g f s t m i f' → i ≤ n →
    FlowOk g (aug g m s n (m.getD i default).1 f') ∧ ∀ b, netS g (aug g m s n (m.getD i default).1 f') b g.2.1.length = netS g f b g.2.1.length + (if s = b then 1 else 0) - (if t = b then 1 else 0) := by
  intro n
  induction n with
  | zero =>
    intro i f' h hi
    have : i = 0 := by omega
    subst this
    refine ⟨h.ok, fun b => ?_⟩
    have := h.net b
    rw [hI.hd] at this
    exact this
  | succ n ih =>
    intro i f' h hi
    unfold aug
    by_cases hs : (m.getD i default).1 = s
    · rw [if_pos hs]
      refine ⟨h.ok, fun b => ?_⟩
      have := h.net b
      rw [hs] at this
      exact this
    · rw [if_neg hs]
      obtain ⟨j, hj, e, hH, _⟩ := half_step hv hI hf h hs
      rw [e]
      exact ih hH (by omega)
theorem half_start {g : Gr} {f : List Int} {s t : Int} {m : Pairs} {i : Nat} (hf : FlowOk g f) (hi : i < m.length) (ht : (m.getD i default).1 = t) : Half g f s t m i f :=
  ⟨hf, hi, fun _ _ _ => rfl, fun b => by rw [ht]; split <;> omega⟩
theorem has_at {m : Pairs} {t : Int} (h : mhas m t = true) : ∃ i, i < m.length ∧ (m.getD i default).1 = t := by
  rw [mhas_iff] at h
  obtain ⟨p, hp, rfl⟩ := List.mem_map.1 h
  obtain ⟨i, hi, rfl⟩ := mem_at hp
  exact ⟨i, hi, rfl⟩
/-- Ways are found and filled, as long as there is one. -/
def mfRun (g : Gr) (s t : Int) : Nat → List Int → List Int
  | 0, f => f
  | n + 1, f => if mhas (mfM g f s) t = true then mfRun g s t n (aug g (mfM g f s) s 8 t f) else f
def mfF (g : Gr) (s t : Int) : List Int := mfRun g s t 200 (List.replicate g.2.1.length 0)
theorem flowOk_zero {g : Gr} (hv : ValidG g) : FlowOk g (List.replicate g.2.1.length 0) := by
  refine ⟨by simp, fun k hk => ?_⟩
  have hk : k < g.2.1.length := by simpa using hk
  have e : (List.replicate g.2.1.length (0 : Int)).getD k 0 = 0 := by simp [List.getD_eq_getElem?_getD, hk]
  have := cap_in hv hk
  rw [e]; unfold eAt; omega
theorem netS_zero {g : Gr} {b : Int} : netS g (List.replicate g.2.1.length 0) b g.2.1.length = 0 := by
  have : ∀ (φ : Edg → Bool) n, n ≤ g.2.1.length → sumIf φ g.2.1 (List.replicate g.2.1.length 0) n = 0 := by
    intro φ n
    induction n with
    | zero => intro _; rfl
    | succ n ih =>
      intro hn
      unfold sumIf
      have e : (List.replicate g.2.1.length (0 : Int)).getD n 0 = 0 := by simp [List.getD_eq_getElem?_getD, show n < g.2.1.length by omega]
      rw [ih (by omega), e]; split <;> rfl
  unfold netS
  rw [this _ _ (Nat.le_refl _), this _ _ (Nat.le_refl _)]; rfl
theorem netS_le {g : Gr} {f : List Int} {b : Int} (hv : ValidG g) (h : FlowOk g f) : netS g f b g.2.1.length ≤ 160 := by
  have hs := h.small hv
  have h1 := sumIf_in (φ := fromB b) (es := g.2.1) hs (n := g.2.1.length) (by rw [h.len]; exact Nat.le_refl _)
  have h2 := sumIf_in (φ := toB b) (es := g.2.1) hs (n := g.2.1.length) (by rw [h.len]; exact Nat.le_refl _)
  have := hv.len
  unfold netS
  omega
/-- One round: more flows. -/
theorem round_spec {g : Gr} {s t : Int} {f : List Int} (hq : Quest g s t) (h : FlowOk g f) (ht : mhas (mfM g f s) t = true) :
    FlowOk g (aug g (mfM g f s) s 8 t f) ∧ ∀ b, netS g (aug g (mfM g f s) s 8 t f) b g.2.1.length = netS g f b g.2.1.length + (if s = b then 1 else 0) - (if t = b then 1 else 0) := by
  have hI := mfM_inv (f := f) hq.v hq.s0 hq.s1
  obtain ⟨i, hi, e⟩ := has_at ht
  have hl := hI.len
  have h8 := hq.v.hi
  have := aug_spec (n := 8) hq.v hI h.len (half_start h hi e) (by omega)
  rwa [e] at this
end Go.Proofs.Ytmnbpamaiboghaa
