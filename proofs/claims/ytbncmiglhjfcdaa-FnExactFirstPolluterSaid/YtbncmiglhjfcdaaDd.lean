/-
  Regions that draw their order: the law.
-/
import Derived.Test.YtbncmiglhjfcdaaDc
namespace Go.Proofs.Ytbncmiglhjfcdaa
open Go.RowKit
set_option linter.unusedVariables false

section
variable {P : Program} {τ : List (Nat × TyI)} {sf : List Nat} {ops : Array Oper} {st : Nat → St} {A : Nat → AV} {bs : Nat → List (Nat × Option Blk)}

theorem ordB_comm (B : List Nat) (i j : Nat) : ordB B i j = ordB B j i := by simp [ordB, Nat.max_comm, Nat.min_comm]
theorem lst_set {listed : Array Bool} {i k : Nat} (hi : i < listed.size) : Lst (listed.setIfInBounds i true) k ↔ Lst listed k ∨ k = i := by
  unfold Lst
  simp only [Array.getD_eq_getD_getElem?, Array.getElem?_setIfInBounds]
  by_cases h : i = k
  · subst h; simp [hi]
  · simp [h, Ne.symm h]
theorem not_lst {listed : Array Bool} {i : Nat} (h : listed.getD i true = false) : i < listed.size ∧ ¬ Lst listed i := by
  unfold Lst
  simp only [Array.getD_eq_getD_getElem?] at h ⊢
  cases hx : listed[i]? with
  | none => rw [hx] at h; cases h
  | some b => rw [hx] at h; cases (show b = false from h); exact ⟨(Array.getElem?_eq_some_iff.1 hx).1, by simp⟩
theorem lst_not {listed : Array Bool} {i : Nat} (hi : i < listed.size) (h : ¬ Lst listed i) : listed.getD i true = false := by
  unfold Lst at h
  simp only [Array.getD_eq_getD_getElem?, Array.getElem?_eq_getElem hi] at h ⊢
  simpa using h

/-- The operations of listed have come up, in whatever order. -/
structure Came (sf : List Nat) (ops : Array Oper) (st : Nat → St) (A : Nat → AV) (bs : Nat → List (Nat × Option Blk)) (E : Ent0) (listed : Array Bool) (a : Act) (w : World) : Prop where
  closed : Closed ops listed
  came : ∃ m, m ≤ ops.size ∧ (∀ k, k < m → Lst listed k) ∧ (∀ k, m ≤ k → Lst listed k → Soft sf ops m (k + 1)) ∧ ∃ t, Spec st A bs ops m (fun k => m ≤ k ∧ Lst listed k) t ∧ Den E t a w

theorem closed_set {listed : Array Bool} (hc : Closed ops listed) {i : Nat} {o : Oper} (hi : ops[i]? = some o) (hr : ∀ e ∈ o.after, Region.binds .any e = true → Lst listed e.on) : Closed ops (listed.setIfInBounds i true) := by
  have his : i < listed.size := by rw [hc.size]; exact (Array.getElem?_eq_some_iff.1 hi).1
  refine ⟨by simpa using hc.size, fun k o' hk hl e he hb => ?_⟩
  rw [lst_set his] at hl ⊢
  rcases hl with hl | rfl
  · exact .inl (hc.edges k o' hk hl e he hb)
  · rw [hi] at hk; cases hk; exact .inl (hr e he hb)

theorem came_step (hτ : TyOk P τ) (hT : ∀ i, i < ops.size → Tstep P τ sf ops i (st i) (st (i + 1)) (A i) (bs i)) {B : List Nat} (hB : certB ops.toList B = true) (hA : apartB sf ops ops.toList B = true) {E : Ent0} {listed : Array Bool} {a : Act} {w : World}
    (hC : Came sf ops st A bs E listed a w) {i : Nat} {o : Oper} (hi : ops[i]? = some o) (hun : ¬ Lst listed i) (hr : ∀ e ∈ o.after, Region.binds .any e = true → Lst listed e.on) (Q : Exit → Act → World → Prop) :
    if Region.wanted o (yielded ops a.tmps) then o.wp P a w (fun a' w' => Came sf ops st A bs E (listed.setIfInBounds i true) a' w') Q else Came sf ops st A bs E (listed.setIfInBounds i true) (a.put o.dst undef) w := by
  have hin : i < ops.size := (Array.getElem?_eq_some_iff.1 hi).1
  have his : i < listed.size := by rw [hC.closed.size]; exact hin
  have hcl := closed_set hC.closed hi hr
  obtain ⟨m, hm, hlow, hsoft, t, hS, hD⟩ := hC.came
  have hmi : m ≤ i := by
    rcases Nat.lt_or_ge i m with h | h
    · exact absurd (hlow i h) hun
    · exact h
  -- how a step's end is turned into what is asked
  have turn : ∀ (s' : St), Sstep P ops t o s' → (∀ a' w', Den E s' a' w' → Came sf ops st A bs E (listed.setIfInBounds i true) a' w') →
      if Region.wanted o (yielded ops a.tmps) then o.wp P a w (fun a' w' => Came sf ops st A bs E (listed.setIfInBounds i true) a' w') Q else Came sf ops st A bs E (listed.setIfInBounds i true) (a.put o.dst undef) w := by
    intro s' hst hfin
    have := hst E a w Q hD
    by_cases hw : Region.wanted o (yielded ops a.tmps) = true
    · rw [if_pos hw] at this ⊢
      exact Oper.wp_mono (fun a' w' h => hfin a' w' h) this
    · rw [if_neg hw] at this ⊢
      exact hfin _ _ this
  have inLex : ∀ {j k L x}, m ≤ k → k < j → j ≤ ops.size → Soft sf ops m j → lkb (bs k) L = some x → (st j).rblk L = some x := fun {j k L x} h1 h2 h3 h4 h5 => ((spec_text hT m j (by omega) h3 h4).blk L x).2 (.inr ⟨k, ⟨h1, h2⟩, h5⟩)
  have baseLex : ∀ {j L x}, m ≤ j → j ≤ ops.size → Soft sf ops m j → (st m).rblk L = some x → (st j).rblk L = some x := fun {j L x} h1 h3 h4 h5 => ((spec_text hT m j h1 h3 h4).blk L x).2 (.inl h5)
  have freshAt : ∀ {k L x}, m ≤ k → k < ops.size → Soft sf ops m (k + 1) → lkb (bs k) L = some x → (st k).rblk L = none := fun {k L x} h1 h2 h3 h4 => by
    have hk : ops[k]? = some ops[k] := Array.getElem?_eq_getElem h2
    obtain ⟨d, _, hL, _⟩ := soft_step hT hk (h3 k _ h1 (by omega) hk)
    exact hL.fresh.2.2 L x h4
  have ltn : ∀ {k}, Lst listed k → k < ops.size := fun {k} hk => by
    rw [← hC.closed.size]
    rcases Nat.lt_or_ge k listed.size with h | h
    · exact h
    · unfold Lst at hk; simp [Array.getElem?_eq_none h] at hk
  cases hso : solidB sf o with
  | true =>
    have ord : ∀ j, j < ops.size → j ≠ i → (j < i → Lst listed j) ∧ (Lst listed j → j < i) := fun j hj hne => by
      have hj' : ops[j]? = some ops[j] := Array.getElem?_eq_getElem hj
      exact ord_listed hB hC.closed hi hj' (Ne.symm hne) hun hr ((apart_at hA hi hj' (Ne.symm hne)).1 hso)
    have hsf : Soft sf ops m i := fun k o' h1 h2 h3 => hsoft k h1 ((ord k (by omega) (by omega)).1 h2) k o' h1 (by omega) h3
    have hS' : Spec st A bs ops m (fun k => m ≤ k ∧ k < i) t := hS.congr (fun k => ⟨fun h => ⟨h.1, (ord k (ltn h.2) (fun e => hun (e ▸ h.2))).2 h.2⟩, fun h => ⟨h.1, (ord k (by omega) (by omega)).1 h.2⟩⟩)
    have hDi : ∀ {a w}, Den E t a w → Den E (st i) a w := fun hd => hS'.same (spec_text hT m i hmi (by omega) hsf) hd
    obtain ⟨o', ho', hstep⟩ := hT i hin
    rw [hi] at ho'
    cases ho'
    rcases hstep with ⟨_, hss⟩ | ⟨h1, _⟩
    · refine turn (st (i + 1)) (fun E' a' w' Q' hd => ?_) (fun a' w' hd => ⟨hcl, i + 1, by omega, fun k hk => ?_, fun k hk hl => ?_, st (i + 1), ⟨rfl, fun r => .inr ⟨fun k hk => ?_, rfl⟩, fun L x => ⟨.inl, fun h => h.elim id (fun ⟨k, hk, _⟩ => ?_)⟩⟩, hd⟩)
      · exact hss E' a' w' Q' (hS'.same (spec_text hT m i hmi (by omega) hsf) hd)
      · rw [lst_set his]
        rcases Nat.lt_or_ge k i with h | h
        · exact .inl ((ord k (by omega) (by omega)).1 h)
        · exact .inr (by omega)
      · rw [lst_set his] at hl
        rcases hl with hl | rfl
        · have := (ord k (ltn hl) (by omega)).2 hl; omega
        · omega
      · have h2 := hk.2
        rw [lst_set his] at h2
        rcases h2 with hl | rfl
        · have := (ord k (ltn hl) (by omega)).2 hl; omega
        · omega
      · have h2 := hk.2
        rw [lst_set his] at h2
        rcases h2 with hl | rfl
        · have := (ord k (ltn hl) (by omega)).2 hl; omega
        · omega
    · rw [hso] at h1; cases h1
  | false =>
    obtain ⟨d, hd, hL, _⟩ := soft_step hT hi hso
    have hsf : Soft sf ops m i := fun k o' h1 h2 h3 => by
      cases hk : solidB sf o' with
      | false => rfl
      | true =>
        have hor := (apart_at hA h3 hi (by omega)).1 hk
        rw [ordB_comm] at hor
        have hl := (ord_listed hB hC.closed hi h3 (by omega) hun hr hor).1 h2
        rw [hsoft k h1 hl k o' h1 (by omega) h3] at hk; cases hk
    have hsf1 : Soft sf ops m (i + 1) := fun k o' h1 h2 h3 => by
      rcases Nat.lt_or_ge k i with h | h
      · exact hsf k o' h1 h h3
      · have : k = i := by omega
        subst this; rw [hi] at h3; cases h3; exact hso
    have hSi := spec_text hT m i hmi (by omega) hsf
    -- writers of what this operation touches
    have wrs : ∀ r, r ∈ touches ops o → ∀ k, k ≠ i → m ≤ k → Wr ops k r → ((k < i → Lst listed k) ∧ (Lst listed k → k < i)) := fun r hr' k hne hk ⟨o', h1, h2⟩ => by
      exact ord_listed hB hC.closed hi h1 (Ne.symm hne) hun hr ((apart_at hA hi h1 (Ne.symm hne)).2 r h2 hr')
    have slots : ∀ r, r ∈ touches ops o → (st i).slot r = t.slot r := fun r hr' => by
      rcases hSi.slot r with ⟨k, h1, h2, h3, h4⟩ | ⟨h1, h2⟩ <;> rcases hS.slot r with ⟨k', g1, g2, g3, g4⟩ | ⟨g1, g2⟩
      · have e1 : k' ≤ k := by
          have hk' : k' < i := (wrs r hr' k' (fun e => hun (e ▸ g1.2)) g1.1 g2).2 g1.2
          exact h3 k' ⟨g1.1, hk'⟩ g2
        have e2 : k ≤ k' := g3 k ⟨h1.1, (wrs r hr' k (by omega) h1.1 h2).1 h1.2⟩ h2
        have e : k = k' := by omega
        subst e; rw [h4, g4]
      · exact absurd h2 (g1 k ⟨h1.1, (wrs r hr' k (by omega) h1.1 h2).1 h1.2⟩)
      · exact absurd g2 (h1 k' ⟨g1.1, (wrs r hr' k' (fun e => hun (e ▸ g1.2)) g1.1 g2).2 g1.2⟩)
      · rw [h2, g2]
    obtain ⟨γ, hsim⟩ := id hD
    have hag : Agree (st i) t := by
      refine ⟨fun L x y hx hy => ?_, hsim.wf⟩
      rcases (hSi.blk L x).1 hx with h1 | ⟨k, h1, h2⟩ <;> rcases (hS.blk L y).1 hy with g1 | ⟨k', g1, g2⟩
      · rw [h1] at g1; cases g1; rfl
      · have hs' := hsoft k' g1.1 g1.2
        have hf := freshAt g1.1 (ltn g1.2) hs' g2
        rw [baseLex g1.1 (Nat.le_of_lt (ltn g1.2)) (fun j o' a1 a2 a3 => hs' j o' a1 (by omega) a3) h1] at hf; cases hf
      · have hf := freshAt h1.1 (by omega) (fun j o' a1 a2 a3 => hsf j o' a1 (by omega) a3) h2
        rw [baseLex h1.1 (by omega) (fun j o' a1 a2 a3 => hsf j o' a1 (by omega) a3) g1] at hf; cases hf
      · rcases Nat.lt_trichotomy k k' with hlt | heq | hgt
        · have hs' := hsoft k' g1.1 g1.2
          have hf := freshAt g1.1 (ltn g1.2) hs' g2
          rw [inLex h1.1 hlt (Nat.le_of_lt (ltn g1.2)) (fun j o' a1 a2 a3 => hs' j o' a1 (by omega) a3) h2] at hf; cases hf
        · subst heq; rw [h2] at g2; cases g2; rfl
        · have hf := freshAt h1.1 (by omega) (fun j o' a1 a2 a3 => hsf j o' a1 (by omega) a3) h2
          rw [inLex g1.1 hgt (by omega) (fun j o' a1 a2 a3 => hsf j o' a1 (by omega) a3) g2] at hf; cases hf
    have hfr : ∀ L x, lkb (bs i) L = some x → t.rblk L = none := fun L x hx => by
      have hf := freshAt hmi hin hsf1 hx
      cases hb : t.rblk L with
      | none => rfl
      | some y =>
        exfalso
        rcases (hS.blk L y).1 hb with h1 | ⟨k, h1, h2⟩
        · rw [baseLex hmi (by omega) hsf h1] at hf; cases hf
        · rcases Nat.lt_trichotomy k i with hlt | heq | hgt
          · rw [inLex h1.1 hlt (by omega) hsf h2] at hf; cases hf
          · exact hun (heq ▸ h1.2)
          · have hs' := hsoft k h1.1 h1.2
            have hf2 := freshAt h1.1 (ltn h1.2) hs' h2
            rw [inLex hmi hgt (Nat.le_of_lt (ltn h1.2)) (fun j o' a1 a2 a3 => hs' j o' a1 (by omega) a3) hx] at hf2; cases hf2
    have hops : ∀ x ∈ o.op.operands, (st i).ev x = t.ev x := fun x hx => by
      cases x with
      | tmp r => exact slots r (by
          unfold touches
          simp only [List.mem_append, List.mem_filterMap]
          exact .inl (.inr ⟨.tmp r, by simpa using hx, rfl⟩))
      | _ => rfl
    have hgs : ∀ j want dj, o.guard = some (j, want) → (ops[j]?).bind (·.dst) = some dj → (st i).slot dj = t.slot dj := fun j want dj hg hj => slots dj (by
      unfold touches
      simp only [hg, hj]
      simp)
    have hLt := hL.loc hag hops hgs (fun x => (ev_sound hsim x).2) (hSi.n.trans hS.n.symm) hfr
    refine turn _ (hLt.sound hτ hd) (fun a' w' hd' => ⟨hcl, m, hm, fun k hk => ?_, fun k hk hl => ?_, _, (hS.ap hi hd (fun k hk hw => ?_) hL.fresh.2.1 hfr).congr (fun k => ?_), hd'⟩)
    · rw [lst_set his]; exact .inl (hlow k hk)
    · rw [lst_set his] at hl
      rcases hl with hl | rfl
      · exact hsoft k hk hl
      · exact hsf1
    · by_cases e : k = i
      · omega
      · exact Nat.le_of_lt ((wrs d (by unfold touches; simp [hd]) k e hk.1 hw).2 hk.2)
    · rw [lst_set his]
      constructor
      · rintro (h | rfl)
        · exact ⟨h.1, .inl h.2⟩
        · exact ⟨hmi, .inr rfl⟩
      · rintro ⟨h1, h2 | rfl⟩
        · exact .inl ⟨h1, h2⟩
        · exact .inr rfl

def unl (ops : Array Oper) (listed : Array Bool) : Nat := (List.range ops.size).countP fun k => !(listed.getD k false)
theorem countP_one {l : List Nat} (hl : l.Nodup) {p q : Nat → Bool} {i : Nat} (hi : i ∈ l) (hp : p i = true) (hq : q i = false) (h : ∀ k, k ≠ i → q k = p k) : l.countP q + 1 = l.countP p := by
  induction l with
  | nil => cases hi
  | cons x l ih =>
    rw [List.nodup_cons] at hl
    by_cases e : x = i
    · subst e
      have : l.countP q = l.countP p := List.countP_congr (fun k hk => by rw [h k (fun e => hl.1 (e ▸ hk))])
      simp [hp, hq, this]
    · have hi' : i ∈ l := by rcases List.mem_cons.1 hi with h1 | h1; exact absurd h1.symm e; exact h1
      have := ih hl.2 hi'
      simp only [List.countP_cons, h x e]
      omega

theorem came_any (hτ : TyOk P τ) (hT : ∀ i, i < ops.size → Tstep P τ sf ops i (st i) (st (i + 1)) (A i) (bs i)) {B : List Nat} (hB : certB ops.toList B = true) (hA : apartB sf ops ops.toList B = true) {E : Ent0} {Q : Exit → Act → World → Prop}
    (hQ : ∀ a w, Den E (st ops.size) a w → Q .normal a w) : ∀ (fuel : Nat) (listed : Array Bool) (a : Act) (w : World), unl ops listed = fuel → Came sf ops st A bs E listed a w → wpAny P .any ops Q fuel listed a w := by
  have fin : ∀ (listed : Array Bool) (a : Act) (w : World), (∀ k, k < ops.size → Lst listed k) → Came sf ops st A bs E listed a w → Q .normal a w := by
    intro listed a w hall hC
    obtain ⟨m, hm, hlow, hsoft, t, hS, hD⟩ := hC.came
    have hsf : Soft sf ops m ops.size := fun k o h1 h2 h3 => hsoft k h1 (hall k h2) k o h1 (by omega) h3
    have hS' : Spec st A bs ops m (fun k => m ≤ k ∧ k < ops.size) t := hS.congr (fun k => ⟨fun h => ⟨h.1, by
      rw [← hC.closed.size]
      rcases Nat.lt_or_ge k listed.size with h' | h'
      · exact h'
      · have := h.2; unfold Lst at this; simp [Array.getElem?_eq_none h'] at this⟩, fun h => ⟨h.1, hall k h.2⟩⟩)
    exact hQ a w (hS'.same (spec_text hT m ops.size hm (Nat.le_refl _) hsf) hD)
  have none_ready : ∀ (listed : Array Bool), Closed ops listed → Region.ready .any ops listed = [] → ∀ k, k < ops.size → Lst listed k := by
    intro listed hc hr k
    induction k using Nat.strongRecOn with
    | _ k ih =>
      intro hk
      by_cases hl : Lst listed k
      · exact hl
      · exfalso
        have hk' : ops[k]? = some ops[k] := Array.getElem?_eq_getElem hk
        have : k ∈ Region.ready .any ops listed := mem_ready.2 ⟨lst_not (by rw [hc.size]; exact hk) hl, ops[k], hk', fun e he hb => by
          have hlt := (cert_at hB hk').2 e he hb
          exact ih e.on hlt (by omega)⟩
        rw [hr] at this; cases this
  intro fuel
  induction fuel with
  | zero =>
    intro listed a w hu hC
    have hall : ∀ k, k < ops.size → Lst listed k := fun k hk => by
      have := (List.countP_eq_zero.1 hu) k (by simpa using hk)
      simpa [Lst] using this
    refine ⟨?_, fin listed a w hall hC⟩
    rw [List.eq_nil_iff_forall_not_mem]
    intro i hi
    obtain ⟨h1, o, h2, _⟩ := mem_ready.1 hi
    exact (not_lst h1).2 (hall i (Array.getElem?_eq_some_iff.1 h2).1)
  | succ fuel ih =>
    intro listed a w hu hC
    refine ⟨fun hr => fin listed a w (none_ready listed hC.closed hr) hC, fun i hi => ?_⟩
    obtain ⟨h1, o, h2, h3⟩ := mem_ready.1 hi
    obtain ⟨his, hun⟩ := not_lst h1
    have hstep := came_step hτ hT hB hA hC h2 hun h3 Q
    have hu' : unl ops (listed.setIfInBounds i true) = fuel := by
      have hin : i < ops.size := (Array.getElem?_eq_some_iff.1 h2).1
      have := countP_one (l := List.range ops.size) List.nodup_range (p := fun k => !(listed.getD k false)) (q := fun k => !((listed.setIfInBounds i true).getD k false)) (i := i) (by simpa using hin) (by
        unfold Lst at hun; simpa using hun) (by simp [his]) (fun k hk => by
        simp [Array.getElem?_setIfInBounds_ne (Ne.symm hk)])
      unfold unl at hu ⊢
      omega
    unfold wpOp
    rw [h2]
    simp only
    by_cases hw : Region.wanted o (yielded ops a.tmps) = true
    · rw [if_pos hw] at hstep ⊢
      exact .inl (Oper.wp_mono (fun a' w' hc => ih _ a' w' hu' hc) hstep)
    · rw [if_neg hw] at hstep ⊢
      exact ih _ _ _ hu' hstep

/-- **The text's order serves for every order.** -/
theorem VC_draw (hτ : TyOk P τ) (hm : P.follows .mixedOrders = true) {rid : Nat} {K : Exit → St → Prop} {s : St} (hB : drawB sf ops = true) (h : Nx (opsVC P τ (some sf) ops ops.toList (fun s => K .normal s) s)) : VC P (.region rid ops true) K s := by
  refine ⟨fun E a w hd => ?_⟩
  obtain ⟨st, A, bs, e, hK, hT⟩ := trace_of hτ ops.toList 0 s (fun j => by simp) h.out
  simp only [drawB, Bool.and_eq_true] at hB
  simp only [Nat.zero_add, Array.length_toList] at hK hT
  refine wp_region_any hm (came_any hτ (fun i hi => hT i (Nat.zero_le _) hi) hB.1 hB.2 (fun a' w' hd' => ⟨_, hK, hd'⟩) _ _ a _ ?_ ?_)
  · unfold unl
    rw [List.countP_eq_length.2]
    · simp
    · intro k hk
      simp at hk
      simp [hk]
  · obtain ⟨γ, hs⟩ := hd
    have hs' : Sim E (st 0) a { w with drawn := w.drawn + 1 } γ := by rw [e]; exact hs.ext (Fr.drew w)
    have nol : ∀ k, ¬ Lst (Array.replicate ops.size false) k := fun k hk => by
      unfold Lst at hk
      simp only [Array.getD_eq_getD_getElem?, Array.getElem?_replicate] at hk
      split at hk <;> cases hk
    refine ⟨⟨by simp, fun k o hk hl => absurd hl (nol k)⟩, 0, Nat.zero_le _, fun k hk => by omega, fun k _ hl => absurd hl (nol k), st 0, ⟨rfl, fun r => .inr ⟨fun k hk => absurd hk.2 (nol k), rfl⟩, fun L x => ⟨.inl, fun h => h.elim id (fun ⟨k, hk, _⟩ => absurd hk.2 (nol k))⟩⟩, γ, hs'⟩
end
end Go.Proofs.Ytbncmiglhjfcdaa
