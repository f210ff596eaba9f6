/-
  The greatest flow, in plain words: the search for a way along which more can flow, and what is added.
-/
import Derived.Test.YtmnbpamaiboghaaSdFp
namespace Go.Proofs.Ytmnbpamaiboghaa
set_option linter.unusedVariables false
set_option linter.unusedSimpArgs false
abbrev eAt (g : Gr) (k : Nat) : Edg := g.2.1.getD k default
/-- Found over edges of a list: forwards, backwards. The entry: (the node, the edge). -/
def fwdL (g : Gr) (f : List Int) (l : List Int) : Pairs := l.flatMap fun x => if f.getD x.toNat 0 < (eAt g x.toNat).2.2.1 then [((eAt g x.toNat).2.1, x)] else []
def bwdL (g : Gr) (f : List Int) (l : List Int) : Pairs := l.flatMap fun x => if 0 < f.getD x.toNat 0 then [((eAt g x.toNat).1, x)] else []
def mfC (g : Gr) (f : List Int) (a : Int) : Pairs := fwdL g f (eFrom g a) ++ bwdL g f (eTo g a)
/-- Edge k leads from a to b, or from b to a, and may carry more, or less. -/
def Way (g : Gr) (f : List Int) (a b : Int) (k : Nat) : Prop :=
  k < g.2.1.length ∧ ((eAt g k).1 = a ∧ (eAt g k).2.1 = b ∧ f.getD k 0 < (eAt g k).2.2.1 ∨ (eAt g k).2.1 = a ∧ (eAt g k).1 = b ∧ 0 < f.getD k 0)
def mfM (g : Gr) (f : List Int) (s : Int) : Pairs := srM (mfC g f) (s, -1)
/-- One step back along the way that was found. -/
def augS (g : Gr) (m : Pairs) (a : Int) (f : List Int) : List Int × Int :=
  if (eAt g (mgetI m a).toNat).2.1 = a then (f.set (mgetI m a).toNat (f.getD (mgetI m a).toNat 0 + 1), (eAt g (mgetI m a).toNat).1)
  else (f.set (mgetI m a).toNat (f.getD (mgetI m a).toNat 0 - 1), (eAt g (mgetI m a).toNat).2.1)
def aug (g : Gr) (m : Pairs) (s : Int) : Nat → Int → List Int → List Int
  | 0, _, f => f
  | n + 1, a, f => if a = s then f else aug g m s n (augS g m a f).2 (augS g m a f).1
theorem getD_set_ne {xs : List Int} {i j : Nat} {v : Int} (h : i ≠ j) : (xs.set i v).getD j 0 = xs.getD j 0 := by simp [List.getD_eq_getElem?_getD, List.getElem?_set_ne h]
theorem getD_set_eq {xs : List Int} {i : Nat} {v : Int} (h : i < xs.length) : (xs.set i v).getD i 0 = v := by simp [List.getD_eq_getElem?_getD, h]
/-- Amounts within the capacities. -/
structure FlowOk (g : Gr) (f : List Int) : Prop where
  len : f.length = g.2.1.length
  rng : ∀ k, k < f.length → 0 ≤ f.getD k 0 ∧ f.getD k 0 ≤ (eAt g k).2.2.1
theorem FlowOk.small {g : Gr} {f : List Int} (hv : ValidG g) (h : FlowOk g f) : Small f := small_of hv h.len h.rng
theorem key_inj {m : Pairs} (h : (keys m).Nodup) {i j : Nat} (hi : i < m.length) (hj : j < m.length) (e : (m.getD i default).1 = (m.getD j default).1) : i = j := by
  rw [← keys_getD hi, ← keys_getD hj, List.getD_eq_getElem?_getD, List.getD_eq_getElem?_getD] at e
  have hi' : i < (keys m).length := by rw [keys_len]; exact hi
  have hj' : j < (keys m).length := by rw [keys_len]; exact hj
  rw [List.getElem?_eq_getElem hi', List.getElem?_eq_getElem hj'] at e
  exact (List.getElem_inj h).1 e
/-- Half way back: at node i of the search. -/
structure Half (g : Gr) (f : List Int) (s t : Int) (m : Pairs) (i : Nat) (f' : List Int) : Prop where
  ok : FlowOk g f'
  at_ : i < m.length
  old : ∀ i', i' ≤ i → 0 < i' → f'.getD (m.getD i' default).2.toNat 0 = f.getD (m.getD i' default).2.toNat 0
  net : ∀ b, netS g f' b g.2.1.length = netS g f b g.2.1.length + (if (m.getD i default).1 = b then 1 else 0) - (if t = b then 1 else 0)
theorem has_at {m : Pairs} {t : Int} (h : mhas m t = true) : ∃ i, i < m.length ∧ (m.getD i default).1 = t := by
  rw [mhas_iff] at h
  obtain ⟨p, hp, rfl⟩ := List.mem_map.1 h
  obtain ⟨i, hi, rfl⟩ := mem_at hp
  exact ⟨i, hi, rfl⟩
/-- Ways are found and filled, as long as there is one. -/
def mfRun (g : Gr) (s t : Int) : Nat → List Int → List Int
  | 0, f => f
  | n + 1, f => if mhas (mfM g f s) t = true then mfRun g s t n (aug g (mfM g f s) s 8 t f) else f
def mfF (g : Gr) (s t : Int) : List Int := mfRun g s t 200 (List.replicate g.2.1.length 0)
end Go.Proofs.Ytmnbpamaiboghaa
