/-
  The cheapest path, in plain words: what it costs, and that no path is cheaper; the loads of two paths.
-/
import Derived.Test.YtmnbpamaiboghaaSbGe
import Derived.Test.YtmnbpamaiboghaaSbHc
import Derived.Test.YtmnbpamaiboghaaSbFk
namespace Go.Proofs.Ytmnbpamaiboghaa
set_option linter.unusedVariables false
set_option linter.unusedSimpArgs false
theorem sumW_eq {f : Nat → Int} : ∀ {n : Nat}, n ≤ 1000 → (∀ k, k < n → 0 ≤ f k ∧ f k ≤ 100) → sumW f n = sumP f n ∧ 0 ≤ sumP f n ∧ sumP f n ≤ 100 * n := by
  intro n
  induction n with
  | zero => intro _ _; exact ⟨rfl, Int.le_refl _, Int.le_refl _⟩
  | succ n ih =>
    intro hn h
    obtain ⟨h1, h2, h3⟩ := ih (by omega) (fun k hk => h k (by omega))
    have h4 := h n (by omega)
    unfold sumW sumP
    rw [h1, wrap_in (k := .i64) (by simp only [inK]; omega)]
    exact ⟨rfl, by omega, by omega⟩
theorem isP_nd {g : Gr} {p : List Int} (h : IsP g p) : p.Nodup := by
  rw [List.Nodup, List.pairwise_iff_getElem]
  intro i j hi hj hij e
  have h1 := (h.at_ j hj).2.2.1
  have h2 : hasI (p.take j) (p.getD j 0) = true := hasI_at (i := i) (by simp; omega) (by
    rw [List.getD_eq_getElem?_getD, List.getD_eq_getElem?_getD, List.getElem?_take, if_pos hij, List.getElem?_eq_getElem hi, List.getElem?_eq_getElem hj, e])
  rw [h2] at h1; cases h1
theorem isP_len {g : Gr} {p : List Int} (h : IsP g p) : p.length ≤ 8 := by
  have hv := h.v.hi
  have := nodup_le 8 p (isP_nd h) (fun x hx => by
    obtain ⟨i, hi, e⟩ := mem_getD hx
    have h1 := h.at_ i hi
    unfold StepOk at h1
    rw [e] at h1
    omega)
  exact this
theorem pv_bd {g : Gr} {v p : List Int} (hp : PriV g v) (h : IsP g p) {i : Nat} (hi : i < p.length - 1) : 0 ≤ pv g v p i ∧ pv g v p i ≤ 100 := by
  have h1 := pe_ok h hi
  exact hp.rng _ (by rw [hp.len]; omega)
theorem pprice_eq {g : Gr} {v p : List Int} (hp : PriV g v) (h : IsP g p) : pprice g v p = sumP (pv g v p) (p.length - 1) ∧ 0 ≤ pprice g v p ∧ pprice g v p ≤ 700 := by
  have h1 := sumW_eq (f := pv g v p) (n := p.length - 1) (by have := isP_len h; omega) (fun k hk => pv_bd hp h hk)
  have e : pprice g v p = sumW (pv g v p) (p.length - 1) := if_pos ⟨isP_iff.2 h, hp.len⟩
  have := isP_len h
  rw [e, h1.1]
  exact ⟨rfl, h1.2.1, by omega⟩
/-- No path is cheaper than what its start costs. -/
theorem path_ge {g : Gr} {v c p : List Int} {t : Int} (hp : PriV g v) (hc : CI g v t c) (hf : Fixd g v c) (h : IsP g p) (hl : p.getD (p.length - 1) 0 = t) : ∀ d, d < p.length → 0 ≤ cAt c (p.getD (p.length - 1 - d) 0) ∧ cAt c (p.getD (p.length - 1 - d) 0) ≤ sumP (pv g v p) (p.length - 1) - sumP (pv g v p) (p.length - 1 - d) + d := by
  intro d
  induction d with
  | zero =>
    intro _
    rw [Nat.sub_zero, hl, hc.tz]
    exact ⟨Int.le_refl _, by omega⟩
  | succ d ih =>
    intro hd
    have I := ih (by omega)
    obtain ⟨i, hi⟩ : ∃ i, i = p.length - 1 - (d + 1) := ⟨_, rfl⟩
    have hi1 : p.length - 1 - d = i + 1 := by omega
    rw [← hi]
    rw [hi1] at I
    have h1 := (h.at_ (i + 1) (by omega)).2.2.2 (by omega)
    rw [Nat.add_sub_cancel] at h1
    obtain ⟨e1, e2, e3⟩ := eb_ends h1
    have hk : (eb g (p.getD i 0) (p.getD (i + 1) 0)).toNat < g.2.1.length := by omega
    have h2 := hf.at_ hk (by unfold eAt; rw [e2]; exact I.1)
    unfold eAt at h2
    rw [e1, e2] at h2
    have e4 : sumP (pv g v p) (i + 1) = sumP (pv g v p) i + v.getD (eb g (p.getD i 0) (p.getD (i + 1) 0)).toNat 0 := rfl
    refine ⟨h2.1, ?_⟩
    omega
/-- Edges are in order. -/
theorem edges_lt {g : Gr} (hv : ValidG g) {i : Nat} : ∀ {d : Nat}, i + d + 1 < g.2.1.length → LessE (g.2.1.getD i default) (g.2.1.getD (i + d + 1) default) := by
  intro d
  induction d with
  | zero =>
    intro h
    have := (hv.edge (i + 1) h).2.2.2.2.2.2.2 (by omega)
    exact this
  | succ d ih =>
    intro h
    have h1 := ih (by omega)
    have h2 := (hv.edge (i + d + 1 + 1) h).2.2.2.2.2.2.2 (by omega)
    rw [Nat.add_sub_cancel] at h2
    have e : i + (d + 1) + 1 = i + d + 1 + 1 := by omega
    rw [e]
    unfold LessE at *
    omega
theorem edge_uniq {g : Gr} (hv : ValidG g) {i j : Nat} (hi : i < g.2.1.length) (hj : j < g.2.1.length) (h1 : (g.2.1.getD i default).1 = (g.2.1.getD j default).1) (h2 : (g.2.1.getD i default).2.1 = (g.2.1.getD j default).2.1) : i = j := by
  have key : ∀ {i j : Nat}, j < g.2.1.length → (g.2.1.getD i default).1 = (g.2.1.getD j default).1 → (g.2.1.getD i default).2.1 = (g.2.1.getD j default).2.1 → ¬ i < j := fun {i j} hj h1 h2 hij => by
    obtain ⟨d, rfl⟩ : ∃ d, j = i + d + 1 := ⟨j - i - 1, by omega⟩
    have := edges_lt hv hj
    unfold LessE at this
    omega
  have a := key hj h1 h2
  have b := key hi h1.symm h2.symm
  omega
/-- The way from a node that the cheapest edges lead. -/
structure CcOk (g : Gr) (v c : List Int) (t a : Int) (l : List Int) : Prop where
  ne : 0 < l.length
  fst : l.getD 0 0 = a
  lst : l.getD (l.length - 1) 0 = t
  mem : ∀ x ∈ l, 0 ≤ x ∧ x < g.1 ∧ 0 ≤ cAt c x ∧ cAt c x ≤ cAt c a
  dn : l.Pairwise (fun x y => cAt c y < cAt c x)
  edge : ∀ q, q + 1 < l.length → ∃ k, k < g.2.1.length ∧ (eAt g k).1 = l.getD q 0 ∧ (eAt g k).2.1 = l.getD (q + 1) 0 ∧ cAt c (l.getD (q + 1) 0) + v.getD k 0 + 1 = cAt c (l.getD q 0)
theorem cch_ok {g : Gr} {v c : List Int} {t : Int} (hp : PriV g v) (hc : CI g v t c) (hf : Fixd g v c) (t0 : 0 ≤ t) (t1 : t < g.1) : ∀ (n : Nat) (a : Int), 0 ≤ a → a < g.1 → 0 ≤ cAt c a → cAt c a ≤ n → CcOk g v c t a (cch g v c t n a) := by
  intro n
  induction n with
  | zero =>
    intro a a0 a1 h1 h2
    have ea : a = t := by
      refine Classical.byContradiction (fun hne => ?_)
      obtain ⟨k, k1, k2, k3, k4⟩ := hc.par a.toNat (by rw [hc.len]; omega) h1 (by omega)
      have := hp.rng k (by rw [hp.len]; exact k1)
      have h2' : c.getD a.toNat 0 ≤ ((0 : Nat) : Int) := h2
      omega
    subst ea
    have e : cch g v c a 0 a = [a] := rfl
    rw [e]
    exact ⟨by simp, by simp, by simp, fun x hx => by simp at hx; subst hx; exact ⟨a0, a1, h1, Int.le_refl _⟩, by simp, fun q hq => by simp at hq⟩
  | succ n ih =>
    intro a a0 a1 h1 h2
    by_cases ea : a = t
    · subst ea
      have e : cch g v c a (n + 1) a = [a] := cch_at
      rw [e]
      exact ⟨by simp, by simp, by simp, fun x hx => by simp at hx; subst hx; exact ⟨a0, a1, h1, Int.le_refl _⟩, by simp, fun q hq => by simp at hq⟩
    · obtain ⟨i0, hi0, ht0⟩ := tgt_ex hp hc hf a0 a1 h1 ea
      -- the first such edge
      obtain ⟨i, hi, ht, hn⟩ : ∃ i, i < (eFrom g a).length ∧ tgt g v c a ((eFrom g a).getD i 0) = true ∧ ∀ k, k < i → tgt g v c a ((eFrom g a).getD k 0) = false := by
        clear h2 ih
        induction i0 using Nat.strongRecOn with
        | _ i0 ih0 =>
          by_cases hx : ∃ k, k < i0 ∧ tgt g v c a ((eFrom g a).getD k 0) = true
          · obtain ⟨k, hk, hk2⟩ := hx
            exact ih0 k hk (by omega) hk2
          · exact ⟨i0, hi0, ht0, fun k hk => by
              cases hb : tgt g v c a ((eFrom g a).getD k 0) with
              | false => rfl
              | true => exact absurd ⟨k, hk, hb⟩ hx⟩
      have hx := idxs_at hi
      have hxo := eFrom_ok hi
      generalize hK : (eFrom g a).getD i 0 = K at ht hn hx hxo
      have hb := tgt_iff.1 ht
      have he := hp.gv.ends (i := K.toNat) (by omega)
      have hw := hp.rng K.toNat (by rw [hp.len]; omega)
      have hnx : nxt g v c a = (eAt g K.toNat).2.1 := by
        have := nxt_at hi (by rw [hK]; exact ht) (fun k hk => hn k hk)
        rw [hK] at this
        exact this
      rw [cch_step ea, hnx]
      have h1' : 0 ≤ c.getD a.toNat 0 := h1
      have h2' : c.getD a.toNat 0 ≤ ((n + 1 : Nat) : Int) := h2
      have I := ih (eAt g K.toNat).2.1 (by unfold eAt; omega) (by unfold eAt; omega) hb.1 (by unfold cAt eAt; omega)
      generalize hL : cch g v c t n (eAt g K.toNat).2.1 = l at I
      have hlt : cAt c (eAt g K.toNat).2.1 < cAt c a := by unfold cAt eAt; omega
      refine ⟨by simp, by simp, ?_, fun x hx => ?_, ?_, fun q hq => ?_⟩
      · have := I.ne
        have e3 : (a :: l).length - 1 = (l.length - 1) + 1 := by simp; omega
        rw [e3, List.getD_cons_succ]
        exact I.lst
      · rcases List.mem_cons.1 hx with rfl | hx
        · exact ⟨a0, a1, h1, Int.le_refl _⟩
        · have := I.mem x hx
          exact ⟨this.1, this.2.1, this.2.2.1, by omega⟩
      · rw [List.pairwise_cons]
        exact ⟨fun x hx => by have := I.mem x hx; omega, I.dn⟩
      · cases q with
        | zero =>
          rw [List.getD_cons_succ, List.getD_cons_zero, I.fst]
          refine ⟨K.toNat, by omega, ?_, rfl, ?_⟩
          · rw [← hK]
            exact of_decide_eq_true (show decide (_ = a) = true from hx.2.2)
          · exact hb.2
        | succ q =>
          rw [List.getD_cons_succ, List.getD_cons_succ]
          exact I.edge q (by simp at hq; omega)
theorem nodup_dn {c l : List Int} (h : l.Pairwise (fun x y => cAt c y < cAt c x)) : l.Nodup := h.imp (fun h e => by subst e; omega)
/-- The cheapest path is a path; its price. -/
theorem cc_path {g : Gr} {v c l : List Int} {t a : Int} (hp : PriV g v) (hc : CI g v t c) (h : CcOk g v c t a l) : IsP g l ∧ pprice g v l = cAt c a - ((l.length - 1 : Nat) : Int) := by
  have hv := hp.gv
  have hP : IsP g l := ⟨hv, h.ne, fun i hi => by
    have hm := h.mem _ (getD_memI hi)
    refine ⟨hm.1, by omega, nodup_take (nodup_dn h.dn) hi, fun h0 => ?_⟩
    obtain ⟨k, k1, k2, k3, _⟩ := h.edge (i - 1) (by omega)
    have e : i - 1 + 1 = i := by omega
    rw [e] at k3
    exact eb_some k1 k2 k3⟩
  refine ⟨hP, ?_⟩
  rw [(pprice_eq hp hP).1]
  have key : ∀ n, n < l.length → sumP (pv g v l) n = cAt c (l.getD 0 0) - cAt c (l.getD n 0) - n := by
    intro n
    induction n with
    | zero => intro _; show (0 : Int) = _; omega
    | succ n ih =>
      intro hn
      have I := ih (by omega)
      obtain ⟨k, k1, k2, k3, k4⟩ := h.edge n hn
      have h1 := eb_some k1 k2 k3
      obtain ⟨e1, e2, e3⟩ := eb_ends h1
      have ek : (eb g (l.getD n 0) (l.getD (n + 1) 0)).toNat = k := edge_uniq hv (by omega) k1 (e1.trans k2.symm) (e2.trans k3.symm)
      have e4 : sumP (pv g v l) (n + 1) = sumP (pv g v l) n + v.getD (eb g (l.getD n 0) (l.getD (n + 1) 0)).toNat 0 := rfl
      rw [e4, ek, I]
      omega
  have hne := h.ne
  rw [key (l.length - 1) (by omega), h.fst, h.lst, hc.tz]
  omega
/-- What costs something leads to the end. -/
theorem cost_reach {g : Gr} {v c : List Int} {s t : Int} (hp : PriV g v) (hc : CI g v t c) (hf : Fixd g v c) (s0 : 0 ≤ s) (s1 : s < g.1) (t0 : 0 ≤ t) (hs : 0 ≤ cAt c s) : (reachL g [s]).getD t.toNat false = true := by
  have key : ∀ (n : Nat) (a : Int), 0 ≤ a → a < g.1 → 0 ≤ cAt c a → (cAt c a).toNat = n → (reachL g [s]).getD a.toNat false = true → (reachL g [s]).getD t.toNat false = true := by
    intro n
    induction n using Nat.strongRecOn with
    | _ n ih =>
      intro a a0 a1 h1 h2 h3
      by_cases ea : a = t
      · rw [← ea]; exact h3
      · obtain ⟨k, k1, k2, k3, k4⟩ := hc.par a.toNat (by rw [hc.len]; omega) h1 (by omega)
        have he := hp.gv.ends k1
        have hw := hp.rng k (by rw [hp.len]; exact k1)
        have h1' : 0 ≤ c.getD a.toNat 0 := h1
        refine ih (cAt c (eAt g k).2.1).toNat (by unfold cAt at *; omega) (eAt g k).2.1 (by unfold eAt; omega) (by unfold eAt; omega) k3 rfl ?_
        refine reach_closed hp.gv k k1 ?_
        have e5 : (((a.toNat : Nat)) : Int) = a := by omega
        show (reachL g [s]).getD (eAtT g k).1.toNat false = true
        have e6 : (eAtT g k).1 = a := by rw [← e5]; exact k2
        rw [e6]; exact h3
  exact key _ s s0 s1 hs rfl (reach_start (g := g) (l := [s]) (fun k hk => by
    have : k = 0 := by simpa using hk
    subst this; exact ⟨s0, s1⟩) (j := 0) (by simp))
/-- The cheapest path, if there is one; none, if none. -/
theorem chp_spec {g : Gr} {v : List Int} {s t : Int} (hp : PriV g v) (s0 : 0 ≤ s) (s1 : s < g.1) (t0 : 0 ≤ t) (t1 : t < g.1) :
    (shpB g s t = false → chpL g v s t = [] ∧ chpP g v s t = -1) ∧
    (shpB g s t = true → IsP g (chpL g v s t) ∧ IsP g (shp g s t) ∧ (chpL g v s t).getD 0 0 = s ∧ (chpL g v s t).getD ((chpL g v s t).length - 1) 0 = t ∧ chpP g v s t = pprice g v (chpL g v s t) ∧
      chpP g v s t + (chpL g v s t).length ≤ pprice g v (shp g s t) + (shp g s t).length) := by
  obtain ⟨hc, hf⟩ := cst hp t0 t1
  have hP : Pair g s t := ⟨hp.gv, s0, s1, t0, t1⟩
  have hCh : Cheap g v s t := ⟨hp, s0, s1, t0, t1⟩
  rw [shpB_yes hP, shp_yes hP]
  constructor
  · intro hno
    have h1 : ¬ 0 ≤ (costs g v t).getD s.toNat 0 := fun hs => by
      have := (found_iff hP).2 (cost_reach hp hc hf s0 s1 t0 hs)
      rw [hno] at this; cases this
    exact ⟨chpL_no h1, chpP_no h1⟩
  · intro hyes
    obtain ⟨q1, q2, q3, _⟩ := spF_path hP hyes
    have g1 := path_ge hp hc hf q1 q3 ((spF g usAll s t).length - 1) (by have := q1.ne; omega)
    have hne := q1.ne
    rw [Nat.sub_self, q2] at g1
    have h1 : 0 ≤ (costs g v t).getD s.toNat 0 := g1.1
    have top := (hc.topA hp.gv s0 s1).2
    rw [chpL_yes hCh h1, chpP_yes hCh h1, chp_eq]
    have C := cch_ok hp hc hf t0 t1 707 s s0 s1 g1.1 top
    obtain ⟨c1, c2⟩ := cc_path hp hc C
    refine ⟨c1, q1, C.fst, C.lst, rfl, ?_⟩
    rw [c2, (pprice_eq hp q1).1]
    have := C.ne
    have e0 : sumP (pv g v (spF g usAll s t)) 0 = 0 := rfl
    have h3 := g1.2
    rw [e0] at h3
    omega
/-! ### the loads of two paths -/
def totL (xs : List Int) : Nat → Int := sumP (fun k => xs.getD k 0)
theorem totL_set {xs : List Int} {i : Nat} {x : Int} (hi : i < xs.length) : ∀ {n : Nat}, totL (xs.set i x) n = totL xs n + if i < n then x - xs.getD i 0 else 0 := by
  intro n
  induction n with
  | zero => rw [if_neg (by omega)]; rfl
  | succ n ih =>
    have e1 : totL (xs.set i x) (n + 1) = totL (xs.set i x) n + (xs.set i x).getD n 0 := rfl
    have e2 : totL xs (n + 1) = totL xs n + xs.getD n 0 := rfl
    rw [e1, e2, ih]
    by_cases e : i = n
    · subst e
      rw [getD_set_eq hi, if_neg (by omega), if_pos (by omega)]
      omega
    · rw [getD_set_ne e]
      by_cases h : i < n
      · rw [if_pos h, if_pos (by omega)]; omega
      · rw [if_neg h, if_neg (by omega)]; omega
theorem addP_tot {g : Gr} {p xs : List Int} {d B : Int} (h : IsP g p) (hl : xs.length = g.2.1.length) (hd : 0 ≤ d ∧ d ≤ 3) (hB : 0 ≤ B ∧ B ≤ 100) (hx : ∀ k, k < xs.length → 0 ≤ xs.getD k 0 ∧ xs.getD k 0 ≤ B) : ∀ {n : Nat}, n ≤ p.length - 1 →
    (∀ k, k < xs.length → 0 ≤ (addP g p d xs n).getD k 0 ∧ (addP g p d xs n).getD k 0 ≤ B + 3 * n) ∧ totL (addP g p d xs n) xs.length = totL xs xs.length + d * n := by
  intro n
  have hp8 := isP_len h
  induction n with
  | zero =>
    intro _
    refine ⟨fun k hk => ?_, ?_⟩
    · have := hx k hk
      have e : addP g p d xs 0 = xs := rfl
      rw [e]; omega
    · show totL xs xs.length = _
      simp
  | succ n ih =>
    intro hn
    obtain ⟨i1, i2⟩ := ih (by omega)
    have hpe := pe_ok h (i := n) (by omega)
    have hal := addP_len (g := g) (p := p) (d := d) (xs := xs) (n := n)
    have e : addP g p d xs (n + 1) = addAt (addP g p d xs n) (pe g p n).toNat d := rfl
    rw [e]
    generalize addP g p d xs n = ys at *
    have hi : (pe g p n).toNat < ys.length := by omega
    have hb := i1 (pe g p n).toNat (by omega)
    have ew : IntKind.wrap .i64 (ys.getD (pe g p n).toNat 0 + d) = ys.getD (pe g p n).toNat 0 + d := wrap_in (k := .i64) (by simp only [inK]; omega)
    unfold addAt
    rw [ew]
    refine ⟨fun k hk => ?_, ?_⟩
    · by_cases ek : (pe g p n).toNat = k
      · rw [← ek, getD_set_eq hi]
        omega
      · rw [getD_set_ne ek]
        have := i1 k hk
        omega
    · rw [totL_set hi, i2, if_pos (by omega)]
      have e5 : d * ((n + 1 : Nat) : Int) = d * n + d := by rw [Int.natCast_add, Int.mul_add]; simp
      omega
theorem zero_at (n k : Nat) : (List.replicate n (0 : Int)).getD k 0 = 0 := by
  by_cases h : k < n
  · simp [List.getD_eq_getElem?_getD, h]
  · rw [List.getD_eq_getElem?_getD, List.getElem?_eq_none (by simp; omega)]; rfl
theorem zero_tot (n : Nat) : ∀ m, totL (List.replicate n 0) m = 0 := by
  intro m
  induction m with
  | zero => rfl
  | succ m ih =>
    have e : totL (List.replicate n 0) (m + 1) = totL (List.replicate n 0) m + (List.replicate n (0 : Int)).getD m 0 := rfl
    rw [e, ih, zero_at]; rfl
theorem eloads_two {g : Gr} {c q : List Int} (hc : IsP g c) (hq : IsP g q) : (∀ k, k < g.2.1.length → 0 ≤ (eloads g [(c, ()), (q, ())] [2, 3]).getD k 0 ∧ (eloads g [(c, ()), (q, ())] [2, 3]).getD k 0 ≤ 42) ∧ totL (eloads g [(c, ()), (q, ())] [2, 3]) g.2.1.length = 2 * ((c.length : Int) - 1) + 3 * ((q.length : Int) - 1) := by
  have hc8 := isP_len hc
  have hq8 := isP_len hq
  have nc := hc.ne
  have nq := hq.ne
  have e1 : eloads g [(c, ()), (q, ())] [2, 3] = addP g q 3 (addP g c 2 (List.replicate g.2.1.length 0) (c.length - 1)) (q.length - 1) := by
    show oneL g [(c, ()), (q, ())] [2, 3] 1 (oneL g [(c, ()), (q, ())] [2, 3] 0 (List.replicate g.2.1.length 0)) = _
    have a0 : oneL g [(c, ()), (q, ())] [2, 3] 0 (List.replicate g.2.1.length 0) = addP g c 2 (List.replicate g.2.1.length 0) (c.length - 1) := if_pos ⟨by simp, isP_iff.2 hc⟩
    rw [a0]
    exact if_pos ⟨by simp, isP_iff.2 hq⟩
  rw [e1]
  obtain ⟨a1, a2⟩ := addP_tot (xs := List.replicate g.2.1.length 0) (d := 2) (B := 0) hc (by simp) (by omega) (by omega) (fun k hk => by rw [zero_at]; omega) (n := c.length - 1) (Nat.le_refl _)
  have hl : (addP g c 2 (List.replicate g.2.1.length 0) (c.length - 1)).length = g.2.1.length := by rw [addP_len]; simp
  have hz : (List.replicate g.2.1.length (0 : Int)).length = g.2.1.length := by simp
  rw [hz] at a1 a2
  obtain ⟨b1, b2⟩ := addP_tot (xs := addP g c 2 (List.replicate g.2.1.length 0) (c.length - 1)) (d := 3) (B := 21) hq hl (by omega) (by omega) (fun k hk => by have := a1 k (by omega); omega) (n := q.length - 1) (Nat.le_refl _)
  rw [hl] at b1 b2
  refine ⟨fun k hk => by have := b1 k hk; omega, ?_⟩
  rw [b2, a2, zero_tot]
  have e6 : ((c.length - 1 : Nat) : Int) = (c.length : Int) - 1 := by omega
  have e7 : ((q.length - 1 : Nat) : Int) = (q.length : Int) - 1 := by omega
  rw [e6, e7]
  omega
end Go.Proofs.Ytmnbpamaiboghaa
