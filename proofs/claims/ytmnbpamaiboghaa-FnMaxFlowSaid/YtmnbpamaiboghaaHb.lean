/-
  The greatest flow and the least cut, in plain words.
-/
import Derived.Test.YtmnbpamaiboghaaFy
import Derived.Test.YtmnbpamaiboghaaGf
namespace Go.Proofs.Ytmnbpamaiboghaa
set_option linter.unusedVariables false
set_option linter.unusedSimpArgs false
/-- What leads out of some nodes, of the first n edges. -/
def cutS (B : Int → Bool) (es : List Edg) : Nat → Int
  | 0 => 0
  | n + 1 => cutS B es n + if B (es.getD n default).1 = true ∧ B (es.getD n default).2.1 = false then (es.getD n default).2.2.1 else 0
def netB (g : Gr) (f : List Int) (B : Int → Bool) (n : Nat) : Int := sumIf (fun e => B e.1) g.2.1 f n - sumIf (fun e => B e.2.1) g.2.1 f n
def sumN (v : Int → Int) : List Int → Int
  | [] => 0
  | x :: l => v x + sumN v l
theorem cutS_0 {B : Int → Bool} {es : List Edg} : cutS B es 0 = 0 := rfl
theorem cutS_succ {B : Int → Bool} {es : List Edg} {n : Nat} : cutS B es (n + 1) = cutS B es n + if B (es.getD n default).1 = true ∧ B (es.getD n default).2.1 = false then (es.getD n default).2.2.1 else 0 := rfl
theorem sumIf_or {p q r : Edg → Bool} {es : List Edg} {f : List Int} (h : ∀ e, r e = (p e || q e)) (hd : ∀ e, p e = true → q e = false) : ∀ {n : Nat}, sumIf r es f n = sumIf p es f n + sumIf q es f n := by
  intro n
  induction n with
  | zero => rfl
  | succ n ih =>
    unfold sumIf
    rw [ih, h]
    cases hp : p (es.getD n default) with
    | true => rw [hd _ hp]; simp; omega
    | false => cases hq : q (es.getD n default) <;> simp <;> omega
theorem sumIf_no {p : Edg → Bool} {es : List Edg} {f : List Int} (h : ∀ e, p e = false) : ∀ {n : Nat}, sumIf p es f n = 0 := by
  intro n
  induction n with
  | zero => rfl
  | succ n ih => unfold sumIf; rw [ih, h]; simp
theorem memI_cons {x y : Int} {l : List Int} : memI (x :: l) y = (decide (x = y) || memI l y) := by simp [memI]
theorem netB_list {g : Gr} {f : List Int} {n : Nat} : ∀ {L : List Int}, L.Nodup → netB g f (memI L) n = sumN (fun a => netS g f a n) L := by
  intro L
  induction L with
  | nil =>
    intro _
    unfold netB sumN
    rw [sumIf_no (p := fun e => memI [] e.1) (fun e => rfl), sumIf_no (p := fun e => memI [] e.2.1) (fun e => rfl)]; rfl
  | cons x l ih =>
    intro h
    have hx := (List.nodup_cons.1 h).1
    have e1 : sumIf (fun e => memI (x :: l) e.1) g.2.1 f n = sumIf (fromB x) g.2.1 f n + sumIf (fun e => memI l e.1) g.2.1 f n := by
      refine sumIf_or (fun e => ?_) (fun e he => ?_)
      · rw [memI_cons]; unfold fromB; rw [decide_eq_decide.2 eq_comm]
      · have : e.1 = x := of_decide_eq_true he
        cases hm : memI l e.1 with
        | false => rfl
        | true => rw [this] at hm; exact absurd (memI_iff.1 hm) hx
    have e2 : sumIf (fun e => memI (x :: l) e.2.1) g.2.1 f n = sumIf (toB x) g.2.1 f n + sumIf (fun e => memI l e.2.1) g.2.1 f n := by
      refine sumIf_or (fun e => ?_) (fun e he => ?_)
      · rw [memI_cons]; unfold toB; rw [decide_eq_decide.2 eq_comm]
      · have : e.2.1 = x := of_decide_eq_true he
        cases hm : memI l e.2.1 with
        | false => rfl
        | true => rw [this] at hm; exact absurd (memI_iff.1 hm) hx
    have := ih (List.nodup_cons.1 h).2
    show netB g f (memI (x :: l)) n = netS g f x n + sumN (fun a => netS g f a n) l
    rw [← this]
    unfold netB netS
    rw [e1, e2]
    omega
/-- No more leaves some nodes than the edges that lead out of them can carry. -/
theorem netB_le {g : Gr} {f : List Int} {B : Int → Bool} (h : FlowOk g f) : ∀ {n : Nat}, n ≤ g.2.1.length → netB g f B n ≤ cutS B g.2.1 n := by
  intro n
  induction n with
  | zero => intro _; exact Int.le_refl _
  | succ n ih =>
    intro hn
    have h1 := ih (by omega)
    have h2 := h.rng n (by rw [h.len]; omega)
    unfold eAt at h2
    unfold netB at *
    unfold sumIf cutS
    cases hb1 : B (g.2.1.getD n default).1 <;> cases hb2 : B (g.2.1.getD n default).2.1 <;> simp only [Bool.false_eq_true, Bool.true_eq_false, if_false, if_true, and_self, and_true, true_and, false_and, and_false, reduceIte] <;> omega
theorem netB_eq {g : Gr} {f : List Int} {B : Int → Bool} (h : FlowOk g f) (hc : ∀ k, k < g.2.1.length → (B (eAt g k).1 = true → B (eAt g k).2.1 = false → f.getD k 0 = (eAt g k).2.2.1) ∧ (B (eAt g k).2.1 = true → B (eAt g k).1 = false → f.getD k 0 = 0)) :
    ∀ {n : Nat}, n ≤ g.2.1.length → netB g f B n = cutS B g.2.1 n := by
  intro n
  induction n with
  | zero => intro _; rfl
  | succ n ih =>
    intro hn
    have h1 := ih (by omega)
    have h2 := hc n (by omega)
    unfold eAt at h2
    unfold netB at *
    unfold sumIf cutS
    cases hb1 : B (g.2.1.getD n default).1 <;> cases hb2 : B (g.2.1.getD n default).2.1 <;> simp only [hb1, hb2, Bool.false_eq_true, Bool.true_eq_false, forall_const, false_implies, and_self, and_true, true_and, false_and, and_false] at h2 <;> simp only [Bool.false_eq_true, Bool.true_eq_false, if_false, if_true, and_self, and_true, true_and, false_and, and_false, reduceIte] <;> omega
/-- A flow from s to t of some value. -/
structure FlowV (g : Gr) (f : List Int) (s t : Int) (v : Int) : Prop where
  ok : FlowOk g f
  net : ∀ b, netS g f b g.2.1.length = (if s = b then v else 0) - (if t = b then v else 0)
theorem sumN_flow {g : Gr} {f : List Int} {s t v : Int} (h : FlowV g f s t v) : ∀ {L : List Int}, L.Nodup → sumN (fun a => netS g f a g.2.1.length) L = (if memI L s = true then v else 0) - (if memI L t = true then v else 0) := by
  intro L
  induction L with
  | nil => intro _; simp [sumN, memI]
  | cons x l ih =>
    intro hn
    have hx := (List.nodup_cons.1 hn).1
    unfold sumN
    rw [ih (List.nodup_cons.1 hn).2, h.net x, memI_cons, memI_cons]
    have k1 : ∀ y, x = y → memI l y = false := fun y e => by
      subst e
      cases hm : memI l x with
      | false => rfl
      | true => exact absurd (memI_iff.1 hm) hx
    by_cases es : s = x <;> by_cases et : t = x
    · subst es; subst et; simp [k1]
    · subst es; rw [k1 s rfl]; simp [et, Ne.symm et]; omega
    · subst et; rw [k1 t rfl]; simp [es, Ne.symm es]; omega
    · simp [es, et, Ne.symm es, Ne.symm et]
theorem flow_le_cut {g : Gr} {f : List Int} {s t v : Int} (h : FlowV g f s t v) {L : List Int} (hn : L.Nodup) (hs : memI L s = true) (ht : memI L t = false) : v ≤ cutS (memI L) g.2.1 g.2.1.length := by
  have h1 := netB_list (g := g) (f := f) (n := g.2.1.length) hn
  rw [sumN_flow h hn, hs, ht] at h1
  have h2 := netB_le (B := memI L) h.ok (Nat.le_refl _)
  simp at h1
  omega
theorem flowV_zero {g : Gr} {s t : Int} (hv : ValidG g) : FlowV g (List.replicate g.2.1.length 0) s t 0 := ⟨flowOk_zero hv, fun b => by rw [netS_zero]; simp⟩
theorem mfRun_flow {g : Gr} {s t : Int} (hq : Quest g s t) : ∀ {n : Nat} {f : List Int} {v : Int}, FlowV g f s t v → (200 : Int) ≤ n + v → ∃ w, FlowV g (mfRun g s t n f) s t w ∧ mhas (mfM g (mfRun g s t n f) s) t = false ∧ v ≤ w := by
  intro n
  induction n with
  | zero =>
    intro f v h hn
    have h1 := h.net s
    have h2 := netS_le (b := s) hq.v h.ok
    rw [if_pos rfl, if_neg (Ne.symm hq.ne)] at h1
    omega
  | succ n ih =>
    intro f v h hn
    unfold mfRun
    by_cases ht : mhas (mfM g f s) t = true
    · rw [if_pos ht]
      have hr := round_spec hq h.ok ht
      obtain ⟨w, k1, k2, k3⟩ := ih (f := aug g (mfM g f s) s 8 t f) (v := v + 1) ⟨hr.1, fun b => by
        rw [hr.2 b, h.net b]
        split <;> split <;> omega⟩ (by omega)
      exact ⟨w, k1, k2, by omega⟩
    · rw [if_neg ht]
      exact ⟨v, h, by simpa using ht, by omega⟩
theorem mfF_flow {g : Gr} {s t : Int} (hq : Quest g s t) : ∃ w, FlowV g (mfF g s t) s t w ∧ mhas (mfM g (mfF g s t) s) t = false ∧ 0 ≤ w := mfRun_flow hq (flowV_zero hq.v) (by omega)
def mcL (g : Gr) (s t : Int) : List Int := keys (mfM g (mfF g s t) s)
theorem mcL_has {g : Gr} {s t x : Int} : x ∈ mcL g s t ↔ mhas (mfM g (mfF g s t) s) x = true := by
  unfold mcL keys
  exact mhas_iff.symm
theorem mcL_closed {g : Gr} {s t : Int} (hq : Quest g s t) {a b : Int} {k : Nat} (ha : a ∈ mcL g s t) (hw : Way g (mfF g s t) a b k) : b ∈ mcL g s t := by
  unfold mcL keys at ha
  obtain ⟨p, hp, rfl⟩ := List.mem_map.1 ha
  obtain ⟨i, hi, rfl⟩ := mem_at hp
  have := sr_over (C := mfC g (mfF g s t)) (r := (s, -1)) ⟨hq.s0, hq.s1⟩ (mfC_rng hq.v) hq.v.hi hi (p := (b, (k : Int))) (mfC_of hw)
  exact mcL_has.2 this
theorem mcL_s {g : Gr} {s t : Int} (hq : Quest g s t) : s ∈ mcL g s t := by
  have hI := mfM_inv (f := mfF g s t) hq.v hq.s0 hq.s1
  have := keys_getD hI.pos
  rw [hI.hd] at this
  have h2 : (0 : Nat) < (keys (mfM g (mfF g s t) s)).length := by rw [keys_len]; exact hI.pos
  unfold mcL
  rw [List.getD_eq_getElem?_getD, List.getElem?_eq_getElem h2] at this
  have h3 := List.getElem_mem h2
  simp at this
  rw [this] at h3
  exact h3
theorem mcL_nd {g : Gr} {s t : Int} (hq : Quest g s t) : (mcL g s t).Nodup := (mfM_inv (f := mfF g s t) hq.v hq.s0 hq.s1).nd
theorem mcL_rng {g : Gr} {s t : Int} (hq : Quest g s t) : ∀ x ∈ mcL g s t, 0 ≤ x ∧ x < g.1 := (mfM_inv (f := mfF g s t) hq.v hq.s0 hq.s1).rng
theorem memI_false {l : List Int} {x : Int} : memI l x = false ↔ x ∉ l := by
  rw [← memI_iff]; simp
/-- The greatest flow is the capacity of the cut that is found. -/
theorem max_min {g : Gr} {s t : Int} (hq : Quest g s t) : ∃ v, FlowV g (mfF g s t) s t v ∧ 0 ≤ v ∧ cutS (memI (mcL g s t)) g.2.1 g.2.1.length = v ∧ t ∉ mcL g s t := by
  obtain ⟨v, h1, h2, h3⟩ := mfF_flow hq
  have ht : t ∉ mcL g s t := fun hm => by
    have := mcL_has.1 hm
    rw [h2] at this; cases this
  refine ⟨v, h1, h3, ?_, ht⟩
  have e := netB_list (g := g) (f := mfF g s t) (n := g.2.1.length) (mcL_nd hq)
  rw [sumN_flow h1 (mcL_nd hq), memI_iff.2 (mcL_s hq), memI_false.2 ht] at e
  rw [netB_eq h1.ok (fun k hk => ⟨fun a b => ?_, fun a b => ?_⟩) (Nat.le_refl _)] at e
  · simpa using e
  · have hr := h1.ok.rng k (by rw [h1.ok.len]; exact hk)
    refine Classical.byContradiction (fun hn => ?_)
    exact memI_false.1 b (mcL_closed hq (memI_iff.1 a) ⟨hk, .inl ⟨rfl, rfl, by omega⟩⟩)
  · have hr := h1.ok.rng k (by rw [h1.ok.len]; exact hk)
    refine Classical.byContradiction (fun hn => ?_)
    exact memI_false.1 b (mcL_closed hq (memI_iff.1 a) ⟨hk, .inr ⟨rfl, rfl, by omega⟩⟩)
theorem cutS_nonneg {g : Gr} {B : Int → Bool} (hv : ValidG g) : ∀ {n : Nat}, n ≤ g.2.1.length → 0 ≤ cutS B g.2.1 n := by
  intro n
  induction n with
  | zero => intro _; exact Int.le_refl _
  | succ n ih =>
    intro hn
    have := ih (by omega)
    have h2 := cap_in hv (i := n) (by omega)
    unfold cutS
    split <;> omega
/-- A cut without capacity: no edge leads out. -/
theorem cutS_zero {g : Gr} {B : Int → Bool} (hv : ValidG g) : ∀ {n : Nat}, n ≤ g.2.1.length → cutS B g.2.1 n = 0 → ∀ k, k < n → B (eAt g k).1 = true → B (eAt g k).2.1 = true := by
  intro n
  induction n with
  | zero => intro _ _ k hk; omega
  | succ n ih =>
    intro hn h0 k hk hb
    have h1 := cutS_nonneg (B := B) hv (n := n) (by omega)
    have h2 := cap_in hv (i := n) (by omega)
    unfold cutS at h0
    by_cases hc : B (g.2.1.getD n default).1 = true ∧ B (g.2.1.getD n default).2.1 = false
    · rw [if_pos hc] at h0; omega
    · rw [if_neg hc] at h0
      by_cases e : k = n
      · subst e
        cases hb2 : B (eAt g k).2.1 with
        | true => rfl
        | false => exact absurd ⟨hb, hb2⟩ hc
      · exact ih (by omega) (by omega) k (by omega) hb
section
attribute [local irreducible] mcL mfF mfM reachL cutS
/-- Something flows if and only if the sink is reached. -/
theorem flow_reach {g : Gr} {s t v : Int} (hq : Quest g s t) (hf : FlowV g (mfF g s t) s t v) (hc : cutS (memI (mcL g s t)) g.2.1 g.2.1.length = v) (ht : t ∉ mcL g s t) (h0 : 0 ≤ v) : 0 < v ↔ (reachL g [s]).getD t.toNat false = true := by
  constructor
  · intro hpos
    refine Classical.byContradiction (fun hn => ?_)
    have hn : (reachL g [s]).getD t.toNat false = false := by simpa using hn
    -- the nodes that are reached
    let L : List Int := ((List.range g.1.toNat).filter fun b => (reachL g [s]).getD b false).map fun b : Nat => (b : Int)
    have hL : ∀ x : Int, x ∈ L ↔ 0 ≤ x ∧ x < g.1 ∧ (reachL g [s]).getD x.toNat false = true := by
      intro x
      constructor
      · intro hx
        obtain ⟨b, hb, rfl⟩ := List.mem_map.1 hx
        obtain ⟨h1, h2⟩ := List.mem_filter.1 hb
        have h1 := List.mem_range.1 h1
        exact ⟨by omega, by omega, h2⟩
      · rintro ⟨h1, h2, h3⟩
        exact List.mem_map.2 ⟨x.toNat, List.mem_filter.2 ⟨List.mem_range.2 (by omega), h3⟩, by omega⟩
    have hnd : L.Nodup := List.Pairwise.map _ (fun a b hab e => hab (by omega)) (List.nodup_range.filter _)
    have hs : s ∈ L := (hL s).2 ⟨hq.s0, hq.s1, reach_start (g := g) (l := [s]) (fun k hk => by
      have : k = 0 := by simpa using hk
      subst this; exact ⟨hq.s0, hq.s1⟩) (j := 0) (by simp)⟩
    have h1 := flow_le_cut hf hnd (memI_iff.2 hs) (memI_false.2 (fun h => by have := (hL t).1 h; rw [hn] at this; cases this.2.2))
    have h2 : ∀ n, n ≤ g.2.1.length → cutS (memI L) g.2.1 n = 0 := by
      intro n
      induction n with
      | zero => intro _; exact cutS_0
      | succ n ih =>
        intro hl
        rw [cutS_succ, ih (by omega), if_neg]
        · rfl
        · rintro ⟨a, b⟩
          refine memI_false.1 b ((hL _).2 ?_)
          have he := hq.v.ends (i := n) (by omega)
          have h3 := (hL _).1 (memI_iff.1 a)
          exact ⟨he.2.2.1, he.2.2.2.1, reach_closed hq.v n (by omega) h3.2.2⟩
    rw [h2 _ (Nat.le_refl _)] at h1
    omega
  · intro hr
    refine Classical.byContradiction (fun hn => ?_)
    have hz := cutS_zero (B := memI (mcL g s t)) hq.v (Nat.le_refl _) (by omega)
    have := reach_sound (g := g) (l := [s]) (P := fun b => ((b : Nat) : Int) ∈ mcL g s t) (fun k hk h1 => by
      have he := hq.v.ends hk
      have e1 : (((eAtT g k).1.toNat : Nat) : Int) = (eAtT g k).1 := by unfold eAtT; omega
      have e2 : (((eAtT g k).2.1.toNat : Nat) : Int) = (eAtT g k).2.1 := by unfold eAtT; omega
      rw [e1] at h1; rw [e2]
      exact memI_iff.1 (hz k hk (memI_iff.2 h1))) (fun k hk => by
      have : k = 0 := by simpa using hk
      subst this
      have e : ((s.toNat : Nat) : Int) = s := by have := hq.s0; omega
      show ((s.toNat : Nat) : Int) ∈ mcL g s t
      rw [e]; exact mcL_s hq) t.toNat hr
    have e : ((t.toNat : Nat) : Int) = t := by have := hq.t0; omega
    rw [e] at this
    exact ht this
end
theorem cutS_congr {B C : Int → Bool} {es : List Edg} (h : ∀ x, B x = C x) : ∀ {n : Nat}, cutS B es n = cutS C es n := by
  obtain rfl : B = C := funext h
  intro n; rfl
end Go.Proofs.Ytmnbpamaiboghaa
