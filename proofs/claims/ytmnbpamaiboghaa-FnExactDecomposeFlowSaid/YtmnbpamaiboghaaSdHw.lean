/-
  A flow taken apart into paths, in plain words: what is left; a search over edges that are left.
-/
import Derived.Test.YtmnbpamaiboghaaSdHo
import Derived.Test.YtmnbpamaiboghaaSdHs
namespace Go.Proofs.Ytmnbpamaiboghaa
set_option linter.unusedVariables false
set_option maxRecDepth 100000
theorem idxs_snoc {φ : Edg → Bool} {es : List Edg} {x : Edg} : ∀ {n : Nat}, n ≤ es.length → idxs φ (es ++ [x]) n = idxs φ es n
  | 0, _ => rfl
  | n + 1, h => by
    have ih := idxs_snoc (φ := φ) (es := es) (x := x) (n := n) (by omega)
    unfold idxs
    rw [ih, snoc_at (by omega)]
theorem flat_congr {X Y : Type} {f g : X → List Y} : ∀ {l : List X}, (∀ x ∈ l, f x = g x) → l.flatMap f = l.flatMap g
  | [], _ => rfl
  | a :: l, h => by
    rw [List.flatMap_cons, List.flatMap_cons, h a (List.mem_cons_self ..), flat_congr (fun x hx => h x (List.mem_cons_of_mem _ hx))]
/-- A search over all edges of what is left is a search over some of the edges. -/
theorem bfs_rm {z : Int} {es : List Edg} {B : Nat → Bool} {a : Int} : ∀ {n : Nat}, n ≤ es.length →
    bfsL (z, rmE B es n, ()) usAll a (idxs (fromB a) (rmE B es n) (rmE B es n).length) = bfsL (z, es, ()) (fun i => !B i) a (idxs (fromB a) es n)
  | 0, _ => rfl
  | n + 1, h => by
    have ih := bfs_rm (z := z) (es := es) (B := B) (a := a) (n := n) (by omega)
    have er : idxs (fromB a) es (n + 1) = if fromB a (es.getD n default) = true then idxs (fromB a) es n ++ [(n : Int)] else idxs (fromB a) es n := rfl
    have eb : ∀ l : List Int, bfsL (z, es, ()) (fun i => !B i) a (l ++ [(n : Int)]) = bfsL (z, es, ()) (fun i => !B i) a l ++ if B n = true then [] else [((es.getD n default).2.1, a)] := fun l => by
      unfold bfsL
      rw [List.flatMap_append]
      cases hB : B n <;> simp [hB]
    by_cases hB : B n = true
    · rw [rmE_yes hB, ih, er]
      split
      · rw [eb, if_pos hB, List.append_nil]
      · rfl
    · have hB' : B n = false := by simpa using hB
      rw [rmE_no hB', er]
      have hlen : (rmE B es n ++ [es.getD n default]).length = (rmE B es n).length + 1 := by simp
      rw [hlen]
      generalize rmE B es n = R at ih
      generalize hx : es.getD n default = x at *
      have el : idxs (fromB a) (R ++ [x]) (R.length + 1) = if fromB a x = true then idxs (fromB a) R R.length ++ [(R.length : Int)] else idxs (fromB a) R R.length := by
        have e0 : idxs (fromB a) (R ++ [x]) (R.length + 1) = if fromB a ((R ++ [x]).getD R.length default) = true then idxs (fromB a) (R ++ [x]) R.length ++ [(R.length : Int)] else idxs (fromB a) (R ++ [x]) R.length := rfl
        rw [e0, snoc_end, idxs_snoc (Nat.le_refl _)]
      have ec : bfsL (z, R ++ [x], ()) usAll a (idxs (fromB a) R R.length) = bfsL (z, R, ()) usAll a (idxs (fromB a) R R.length) := by
        unfold bfsL
        refine flat_congr (fun y hy => ?_)
        obtain ⟨i, hi, rfl, _⟩ := idxs_mem.1 hy
        have : ((i : Int)).toNat = i := by omega
        rw [this]
        show (if usAll i = true then [(((R ++ [x]).getD i default).2.1, a)] else []) = (if usAll i = true then [((R.getD i default).2.1, a)] else [])
        rw [snoc_at hi]
      rw [el]
      split
      · have es2 : ∀ l : List Int, bfsL (z, R ++ [x], ()) usAll a (l ++ [(R.length : Int)]) = bfsL (z, R ++ [x], ()) usAll a l ++ [(x.2.1, a)] := fun l => by
          unfold bfsL
          rw [List.flatMap_append]
          have : ((R.length : Int)).toNat = R.length := by omega
          simp [usAll, this]
        rw [es2, ec, ih, eb, if_neg hB]
      · rw [ec, ih]
theorem bfsC_rm {g : Gr} {B : Nat → Bool} {a : Int} : bfsC (rmG g B) usAll a = bfsC g (fun i => !B i) a := bfs_rm (z := g.1) (es := g.2.1) (B := B) (a := a) (Nat.le_refl _)
theorem bfsM_rm {g : Gr} {B : Nat → Bool} {s : Int} : bfsM (rmG g B) usAll s = bfsM g (fun i => !B i) s := by
  rw [bfsM_eq, bfsM_eq]
  have : bfsC (rmG g B) usAll = bfsC g (fun i => !B i) := funext fun a => bfsC_rm
  rw [this]
theorem spF_rm {g : Gr} {B : Nat → Bool} {s t : Int} : spF (rmG g B) usAll s t = spF g (fun i => !B i) s t := by
  unfold spF
  rw [bfsM_rm]
/-- Edges that are left. -/
def usL (l : List Int) : Nat → Bool := fun i => decide (0 < l.getD i 0)
/-- One taken away from each of the first i edges of a path. -/
def decP (g : Gr) (p l : List Int) : Nat → List Int
  | 0 => l
  | i + 1 => (decP g p l i).set (pe g p i).toNat ((decP g p l i).getD (pe g p i).toNat 0 - 1)
theorem decP_z {g : Gr} {p l : List Int} : decP g p l 0 = l := rfl
theorem decP_s {g : Gr} {p l : List Int} {i : Nat} : decP g p l (i + 1) = (decP g p l i).set (pe g p i).toNat ((decP g p l i).getD (pe g p i).toNat 0 - 1) := rfl
structure LeftOk (g : Gr) (l : List Int) : Prop where
  len : l.length = g.2.1.length
  rng : ∀ k, k < l.length → 0 ≤ l.getD k 0 ∧ l.getD k 0 ≤ 8
theorem pe_ends {g : Gr} {p : List Int} (h : IsP g p) {i : Nat} (hi : i < p.length - 1) : (g.2.1.getD (pe g p i).toNat default).1 = p.getD i 0 ∧ (g.2.1.getD (pe g p i).toNat default).2.1 = p.getD (i + 1) 0 := by
  have h0 := pe_ok h hi
  have := eb_ends (g := g) (a := p.getD i 0) (b := p.getD (i + 1) 0) h0.1
  exact ⟨this.1, this.2.1⟩
theorem pe_inj {g : Gr} {p : List Int} (h : IsP g p) {i j : Nat} (hi : i < p.length - 1) (hj : j < p.length - 1) (e : pe g p i = pe g p j) : i = j := by
  have h1 := (pe_ends h hi).1
  have h2 := (pe_ends h hj).1
  rw [e, h2] at h1
  exact nd_inj (isP_nd h) (by omega) (by omega) h1.symm
/-- What is left behind a path of edges that were left. -/
theorem decP_ok {g : Gr} {p l : List Int} (hl : LeftOk g l) (h : IsP g p) (hu : ∀ i, i < p.length - 1 → 0 < l.getD (pe g p i).toNat 0) : ∀ {i : Nat}, i ≤ p.length - 1 →
    (decP g p l i).length = l.length ∧ (∀ j, i ≤ j → j < p.length - 1 → (decP g p l i).getD (pe g p j).toNat 0 = l.getD (pe g p j).toNat 0) ∧ LeftOk g (decP g p l i) ∧ totL (decP g p l i) g.2.1.length = totL l g.2.1.length - i := by
  intro i
  induction i with
  | zero =>
    intro _
    rw [decP_z]
    exact ⟨rfl, fun _ _ _ => rfl, hl, by omega⟩
  | succ i ih =>
    intro hi
    obtain ⟨a1, a2, a3, a4⟩ := ih (by omega)
    have hp := pe_ok h (i := i) (by omega)
    have hlt : (pe g p i).toNat < (decP g p l i).length := by rw [a3.len]; omega
    have hv := a2 i (Nat.le_refl _) (by omega)
    have hpos := hu i (by omega)
    rw [decP_s]
    refine ⟨by rw [List.length_set]; exact a1, fun j hj hj2 => ?_, ⟨by rw [List.length_set]; exact a3.len, fun k hk => ?_⟩, ?_⟩
    · have hne : (pe g p i).toNat ≠ (pe g p j).toNat := fun hc => by
        have hq := pe_ok h (i := j) hj2
        have := pe_inj h (by omega) hj2 (show pe g p i = pe g p j by omega)
        omega
      rw [getD_set_ne hne]
      exact a2 j (by omega) hj2
    · rw [List.length_set] at hk
      by_cases hc : (pe g p i).toNat = k
      · rw [← hc, getD_set_eq hlt]
        have := (hl.rng (pe g p i).toNat (by rw [hl.len]; omega))
        rw [hv]
        omega
      · rw [getD_set_ne hc]
        exact a3.rng k hk
    · rw [totL_set hlt, if_pos (by omega), a4]
      omega
/-- The paths, one behind the other; what is left. -/
noncomputable def dcB (g : Gr) (s t : Int) (l : List Int) : Bool := mhas (bfsM g (usL l) s) t
noncomputable def dcP (g : Gr) (s t : Int) (l : List Int) : List Int := spF g (usL l) s t
noncomputable def dcN (g : Gr) (s t : Int) (l : List Int) : Nat → List Int × List L1
  | 0 => (l, [])
  | r + 1 => if dcB g s t (dcN g s t l r).1 = true then (decP g (dcP g s t (dcN g s t l r).1) (dcN g s t l r).1 ((dcP g s t (dcN g s t l r).1).length - 1), (dcN g s t l r).2 ++ [(dcP g s t (dcN g s t l r).1, ())]) else dcN g s t l r
theorem dcN_z {g : Gr} {s t : Int} {l : List Int} : dcN g s t l 0 = (l, []) := rfl
theorem dcN_y {g : Gr} {s t : Int} {l : List Int} {r : Nat} (h : dcB g s t (dcN g s t l r).1 = true) : dcN g s t l (r + 1) = (decP g (dcP g s t (dcN g s t l r).1) (dcN g s t l r).1 ((dcP g s t (dcN g s t l r).1).length - 1), (dcN g s t l r).2 ++ [(dcP g s t (dcN g s t l r).1, ())]) := if_pos h
theorem dcN_stop {g : Gr} {s t : Int} {l : List Int} {r : Nat} (h : dcB g s t (dcN g s t l r).1 = false) : ∀ k, dcN g s t l (r + k) = dcN g s t l r
  | 0 => rfl
  | k + 1 => by
    have ih := dcN_stop h k
    show (if dcB g s t (dcN g s t l (r + k)).1 = true then _ else dcN g s t l (r + k)) = _
    rw [ih, h]
    exact if_neg (by simp)
noncomputable def dcL (g : Gr) (s t : Int) (l : List Int) : List L1 := (dcN g s t l 200).2
/-- The path of a round. -/
theorem dc_path {g : Gr} {s t : Int} {l : List Int} (hq : Quest g s t) (hl : LeftOk g l) (h : dcB g s t l = true) :
    IsP g (dcP g s t l) ∧ 2 ≤ (dcP g s t l).length ∧ (dcP g s t l).length ≤ 8 ∧ ∀ i, i < (dcP g s t l).length - 1 → 0 < l.getD (pe g (dcP g s t l) i).toNat 0 := by
  have hp : Pair g s t := ⟨hq.v, hq.s0, hq.s1, hq.t0, hq.t1⟩
  obtain ⟨h1, h2, h3, h4⟩ := spF_path hp h
  have h5 := (path_one h1 h2 h3).2 hq.ne
  have h6 := h1.ne
  have h7 := isP_len h1
  refine ⟨h1, by unfold dcP; omega, h7, fun i hi => ?_⟩
  unfold dcP at hi ⊢
  obtain ⟨e, e1, e2, e3, e4⟩ := h4 i (by omega)
  have e5 := pe_ends h1 (i := i) (by omega)
  have e6 := pe_ok h1 (i := i) (by omega)
  have e7 := edge_uniq hq.v (i := (pe g (spF g (usL l) s t) i).toNat) (j := e) (by omega) e1 (e5.1.trans e3.symm) (e5.2.trans e4.symm)
  rw [e7]
  exact of_decide_eq_true e2
/-- A round: what is left is in order, and less. -/
theorem dc_round {g : Gr} {s t : Int} {l : List Int} {r : Nat} (hq : Quest g s t) (hl : LeftOk g (dcN g s t l r).1) (h : dcB g s t (dcN g s t l r).1 = true) :
    LeftOk g (dcN g s t l (r + 1)).1 ∧ totL (dcN g s t l (r + 1)).1 g.2.1.length < totL (dcN g s t l r).1 g.2.1.length := by
  rw [dcN_y h]
  simp only
  generalize (dcN g s t l r).1 = l' at hl h
  obtain ⟨p1, p2, _, p3⟩ := dc_path hq hl h
  generalize dcP g s t l' = p at p1 p2 p3
  obtain ⟨a1, a2, a3, a4⟩ := decP_ok hl p1 p3 (i := p.length - 1) (Nat.le_refl _)
  exact ⟨a3, by omega⟩
theorem left_tot {g : Gr} {l : List Int} (h : LeftOk g l) : ∀ {n : Nat}, n ≤ l.length → 0 ≤ totL l n ∧ totL l n ≤ 8 * n
  | 0, _ => ⟨Int.le_refl _, Int.le_refl _⟩
  | n + 1, hn => by
    have h1 := left_tot h (n := n) (by omega)
    have h2 := h.rng n (by omega)
    have e : totL l (n + 1) = totL l n + l.getD n 0 := rfl
    omega
end Go.Proofs.Ytmnbpamaiboghaa
