/-
  A search in breadth, in plain words: entries (node, the node from which it was found), in the order in which they are found.
-/
import Derived.Test.YtbepgedckfhifaaGreatFiFl
namespace Go.Proofs.YtbepgedckfhifaaGreat
set_option linter.unusedVariables false
set_option linter.unusedSimpArgs false
abbrev Pairs := List (Int × Int)
def keys (m : Pairs) : List Int := m.map (·.1)
theorem keys_len (m : Pairs) : (keys m).length = m.length := by simp [keys]
theorem nodup_le : ∀ (n : Nat) (l : List Int), l.Nodup → (∀ x ∈ l, 0 ≤ x ∧ x < n) → l.length ≤ n := by
  intro n
  induction n with
  | zero =>
    intro l _ h
    cases l with
    | nil => simp
    | cons x l => have := h x (by simp); omega
  | succ n ih =>
    intro l hn h
    by_cases hm : (n : Int) ∈ l
    · have h1 := ih (l.erase n) (hn.erase (n : Int)) (fun x hx => by
        have h2 := (hn.mem_erase_iff).1 hx
        have := h x h2.2
        have h3 : x ≠ (n : Int) := h2.1
        omega)
      rw [List.length_erase_of_mem hm] at h1
      omega
    · have := ih l hn (fun x hx => by
        have := h x hx
        have h3 : x ≠ (n : Int) := fun e => hm (e ▸ hx)
        omega)
      omega
theorem ValidG.ends {g : Gr} (h : ValidG g) {i : Nat} (hi : i < g.2.1.length) : 0 ≤ (g.2.1.getD i default).1 ∧ (g.2.1.getD i default).1 < g.1 ∧ 0 ≤ (g.2.1.getD i default).2.1 ∧ (g.2.1.getD i default).2.1 < g.1 ∧ (g.2.1.getD i default).1 ≠ (g.2.1.getD i default).2.1 := by
  have := h.edge i hi
  simp only [EdgeOk] at this
  omega
def addC (m : Pairs) (p : Int × Int) : Pairs := if mhas m p.1 = true then m else m ++ [p]
def addAll (m : Pairs) (l : Pairs) : Pairs := l.foldl addC m
def sr (C : Int → Pairs) (r : Int × Int) : Nat → Pairs
  | 0 => [r]
  | k + 1 => if k < (sr C r k).length then addAll (sr C r k) (C ((sr C r k).getD k default).1) else sr C r k
structure SrI (C : Int → Pairs) (r : Int × Int) (n : Int) (m : Pairs) : Prop where
  nd : (keys m).Nodup
  pos : 0 < m.length
  hd : m.getD 0 default = r
  rng : ∀ x ∈ keys m, 0 ≤ x ∧ x < n
  par : ∀ i, 0 < i → i < m.length → ∃ j, j < i ∧ m.getD i default ∈ C (m.getD j default).1
theorem SrI.len {C : Int → Pairs} {r : Int × Int} {n : Int} {m : Pairs} (h : SrI C r n m) : m.length ≤ n.toNat := by
  have := nodup_le n.toNat (keys m) h.nd (fun x hx => by have := h.rng x hx; omega)
  rwa [keys_len] at this
def srM (C : Int → Pairs) (r : Int × Int) : Pairs := sr C r 8
def chain (m : Pairs) (s : Int) : Nat → Int → List Int
  | 0, a => [a]
  | n + 1, a => if a = s then [a] else a :: chain m s n (mgetI m a)
def bfsL (g : Gr) (us : Nat → Bool) (a : Int) (l : List Int) : Pairs := l.flatMap fun x => if us x.toNat = true then [((g.2.1.getD x.toNat default).2.1, a)] else []
def bfsC (g : Gr) (us : Nat → Bool) (a : Int) : Pairs := bfsL g us a (eFrom g a)
def bfsM (g : Gr) (us : Nat → Bool) (s : Int) : Pairs := srM (bfsC g us) (s, s)
def spF (g : Gr) (us : Nat → Bool) (s t : Int) : List Int := if mhas (bfsM g us s) t = true then (chain (bfsM g us s) s 8 t).reverse else []
end Go.Proofs.YtbepgedckfhifaaGreat
