/-
  The greatest flow, in plain words: the search for a way along which more can flow, and what is added.
-/
import Derived.Test.YtomjemikjnpinaaDoorSsFp
namespace Go.Proofs.YtomjemikjnpinaaDoor
set_option linter.unusedVariables false
set_option linter.unusedSimpArgs false
abbrev eAt (g : Gr) (k : Nat) : Edg := g.2.1.getD k default
/-- Found over edges of a list: forwards, backwards. The entry: (the node, the edge). -/
def fwdL (g : Gr) (f : List Int) (l : List Int) : Pairs := l.flatMap fun x => if f.getD x.toNat 0 < (eAt g x.toNat).2.2.1 then [((eAt g x.toNat).2.1, x)] else []
def bwdL (g : Gr) (f : List Int) (l : List Int) : Pairs := l.flatMap fun x => if 0 < f.getD x.toNat 0 then [((eAt g x.toNat).1, x)] else []
def mfC (g : Gr) (f : List Int) (a : Int) : Pairs := fwdL g f (eFrom g a) ++ bwdL g f (eTo g a)
/-- Edge k leads from a to b, or from b to a, and may carry more, or less. -/
def Way (g : Gr) (f : List Int) (a b : Int) (k : Nat) : Prop :=
  k < g.2.1.length ∧ ((eAt g k).1 = a ∧ (eAt g k).2.1 = b ∧ f.getD k 0 < (eAt g k).2.2.1 ∨ (eAt g k).2.1 = a ∧ (eAt g k).1 = b ∧ 0 < f.getD k 0)
def mfM (g : Gr) (f : List Int) (s : Int) : Pairs := srM (mfC g f) (s, -1)
/-- The search is over. -/
theorem sr_over {C : Int → Pairs} {r : Int × Int} {n : Int} (h0 : 0 ≤ r.1 ∧ r.1 < n) (hC : ∀ a, ∀ p ∈ C a, 0 ≤ p.1 ∧ p.1 < n) (hn : n ≤ 8) {i : Nat} (hi : i < (srM C r).length) {p : Int × Int} (hp : p ∈ C ((srM C r).getD i default).1) : mhas (srM C r) p.1 = true := by
  have hl := (sr_inv h0 hC (k := 8)).len
  have hi8 : i < 8 := by have : (srM C r).length ≤ n.toNat := hl; omega
  -- node i is looked at in round i + 1
  have ext : ∀ k j, k ≤ j → ∀ i, i < (sr C r k).length → i < (sr C r j).length ∧ (sr C r j).getD i default = (sr C r k).getD i default := by
    intro k j hkj
    induction j with
    | zero => intro i h; have : k = 0 := by omega
              rw [this] at h ⊢; exact ⟨h, rfl⟩
    | succ j ih =>
      intro i h
      by_cases e : k = j + 1
      · rw [e] at h ⊢; exact ⟨h, rfl⟩
      · obtain ⟨h1, h2⟩ := ih (by omega) i h
        show i < (if j < (sr C r j).length then addAll (sr C r j) (C ((sr C r j).getD j default).1) else sr C r j).length ∧ (if j < (sr C r j).length then addAll (sr C r j) (C ((sr C r j).getD j default).1) else sr C r j).getD i default = _
        split
        · have := addAll_ext (l := C ((sr C r j).getD j default).1) h1
          exact ⟨by omega, this.2.trans h2⟩
        · exact ⟨h1, h2⟩
  have hasx : ∀ k j, k ≤ j → ∀ x, mhas (sr C r k) x = true → mhas (sr C r j) x = true := by
    intro k j hkj x hx
    rw [mhas_iff] at hx ⊢
    obtain ⟨q, hq, rfl⟩ := List.mem_map.1 hx
    obtain ⟨i, hi, rfl⟩ := mem_at hq
    obtain ⟨h1, h2⟩ := ext k j hkj i hi
    exact List.mem_map.2 ⟨_, getD_mem h1, by rw [h2]⟩
  by_cases hlen : i < (sr C r i).length
  · have e := (ext i 8 (by omega) i hlen).2
    have h1 : sr C r (i + 1) = addAll (sr C r i) (C ((sr C r i).getD i default).1) := if_pos hlen
    have h2 : mhas (sr C r (i + 1)) p.1 = true := by
      rw [h1]
      refine addAll_has (.inr ⟨p, ?_, rfl⟩)
      rw [← e]; exact hp
    exact hasx (i + 1) 8 (by omega) _ h2
  · have e := sr_stop (C := C) (r := r) (k := i) (j := 8) (by omega) (by omega)
    have : (srM C r).length = (sr C r i).length := by unfold srM; rw [e]
    omega
/-- One step back along the way that was found. -/
def augS (g : Gr) (m : Pairs) (a : Int) (f : List Int) : List Int × Int :=
  if (eAt g (mgetI m a).toNat).2.1 = a then (f.set (mgetI m a).toNat (f.getD (mgetI m a).toNat 0 + 1), (eAt g (mgetI m a).toNat).1)
  else (f.set (mgetI m a).toNat (f.getD (mgetI m a).toNat 0 - 1), (eAt g (mgetI m a).toNat).2.1)
def aug (g : Gr) (m : Pairs) (s : Int) : Nat → Int → List Int → List Int
  | 0, _, f => f
  | n + 1, a, f => if a = s then f else aug g m s n (augS g m a f).2 (augS g m a f).1
theorem getD_set_ne {xs : List Int} {i j : Nat} {v : Int} (h : i ≠ j) : (xs.set i v).getD j 0 = xs.getD j 0 := by simp [List.getD_eq_getElem?_getD, List.getElem?_set_ne h]
/-- Amounts within the capacities. -/
structure FlowOk (g : Gr) (f : List Int) : Prop where
  len : f.length = g.2.1.length
  rng : ∀ k, k < f.length → 0 ≤ f.getD k 0 ∧ f.getD k 0 ≤ (eAt g k).2.2.1
theorem FlowOk.small {g : Gr} {f : List Int} (hv : ValidG g) (h : FlowOk g f) : Small f := small_of hv h.len h.rng
theorem key_inj {m : Pairs} (h : (keys m).Nodup) {i j : Nat} (hi : i < m.length) (hj : j < m.length) (e : (m.getD i default).1 = (m.getD j default).1) : i = j := by
  rw [← keys_getD hi, ← keys_getD hj, List.getD_eq_getElem?_getD, List.getD_eq_getElem?_getD] at e
  have hi' : i < (keys m).length := by rw [keys_len]; exact hi
  have hj' : j < (keys m).length := by rw [keys_len]; exact hj
  rw [List.getElem?_eq_getElem hi', List.getElem?_eq_getElem hj'] at e
  exact (List.getElem_inj h).1 e
/-- Half way back: at node i of the search. -/
structure Half (g : Gr) (f : List Int) (s t : Int) (m : Pairs) (i : Nat) (f' : List Int) : Prop where
  ok : FlowOk g f'
  at_ : i < m.length
  old : ∀ i', i' ≤ i → 0 < i' → f'.getD (m.getD i' default).2.toNat 0 = f.getD (m.getD i' default).2.toNat 0
  net : ∀ b, netS g f' b g.2.1.length = netS g f b g.2.1.length + (if (m.getD i default).1 = b then 1 else 0) - (if t = b then 1 else 0)
theorem has_at {m : Pairs} {t : Int} (h : mhas m t = true) : ∃ i, i < m.length ∧ (m.getD i default).1 = t := by
  rw [mhas_iff] at h
  obtain ⟨p, hp, rfl⟩ := List.mem_map.1 h
  obtain ⟨i, hi, rfl⟩ := mem_at hp
  exact ⟨i, hi, rfl⟩
/-- Ways are found and filled, as long as there is one. -/
def mfRun (g : Gr) (s t : Int) : Nat → List Int → List Int
  | 0, f => f
  | n + 1, f => if mhas (mfM g f s) t = true then mfRun g s t n (aug g (mfM g f s) s 8 t f) else f
def mfF (g : Gr) (s t : Int) : List Int := mfRun g s t 200 (List.replicate g.2.1.length 0)
end Go.Proofs.YtomjemikjnpinaaDoor
