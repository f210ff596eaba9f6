/-
  Reduced matrices over the field of 1019 elements (plain): what rows span; reduced rows that span the same are the same; elimination, insertion.
-/
import Derived.Test.YtbepgedckfhifaaGreatFiVC
namespace Go.Proofs.YtbepgedckfhifaaGreat
namespace LA
set_option linter.unusedVariables false
abbrev Fq := Fin 1019
def sumF (f : Nat → Fq) : Nat → Fq
  | 0 => 0
  | n + 1 => sumF f n + f n
theorem sumF_zero {f : Nat → Fq} : ∀ {n : Nat}, (∀ j, j < n → f j = 0) → sumF f n = 0
  | 0, _ => rfl
  | n + 1, h => by
    have h1 := sumF_zero (f := f) (n := n) (fun j hj => h j (by omega))
    have h2 := h n (by omega)
    show sumF f n + f n = 0
    rw [h1, h2]; rfl
theorem sumF_delta {f : Nat → Fq} {i : Nat} : ∀ {n : Nat}, i < n → (∀ j, j < n → j ≠ i → f j = 0) → sumF f n = f i
  | 0, h, _ => absurd h (Nat.not_lt_zero _)
  | n + 1, h, h2 => by
    show sumF f n + f n = f i
    by_cases e : i = n
    · subst e
      rw [sumF_zero (fun j hj => h2 j (by omega) (by omega))]
      grind
    · rw [sumF_delta (i := i) (n := n) (by omega) (fun j hj hn => h2 j (by omega) hn), h2 n (by omega) (by omega)]
      grind
theorem sumF_lin {f g h : Nat → Fq} {k : Fq} : ∀ {n : Nat}, (∀ j, j < n → h j = f j + k * g j) → sumF h n = sumF f n + k * sumF g n
  | 0, _ => by show (0 : Fq) = 0 + k * 0; grind
  | n + 1, hh => by
    have h1 := sumF_lin (f := f) (g := g) (h := h) (k := k) (n := n) (fun j hj => hh j (by omega))
    have h2 := hh n (by omega)
    show sumF h n + h n = (sumF f n + f n) + k * (sumF g n + g n)
    rw [h1, h2]; grind
inductive Sp (w n : Nat) (M : Nat → Nat → Fq) : (Nat → Fq) → Prop
  | zero {x : Nat → Fq} : (∀ c, c < w → x c = 0) → Sp w n M x
  | row {x : Nat → Fq} (i : Nat) : i < n → (∀ c, c < w → x c = M i c) → Sp w n M x
  | add {x y z : Nat → Fq} (k : Fq) : Sp w n M x → Sp w n M y → (∀ c, c < w → z c = x c + k * y c) → Sp w n M z
theorem Sp.of {w n n' : Nat} {M M' : Nat → Nat → Fq} (h : ∀ i, i < n → Sp w n' M' (M i)) {x : Nat → Fq} (hx : Sp w n M x) : Sp w n' M' x := by
  induction hx with
  | zero h0 => exact .zero h0
  | row i hi h0 => exact .add 0 (h i hi) (.zero (x := fun _ => 0) (fun _ _ => rfl)) (fun c hc => by rw [h0 c hc]; grind)
  | add k _ _ h0 ih1 ih2 => exact .add k ih1 ih2 h0
theorem Sp.scale {w n : Nat} {M : Nat → Nat → Fq} {x y : Nat → Fq} (k : Fq) (hx : Sp w n M x) (h : ∀ c, c < w → y c = k * x c) : Sp w n M y :=
  .add k (.zero (x := fun _ => 0) (fun _ _ => rfl)) hx (fun c hc => by rw [h c hc]; grind)
structure Red (w r : Nat) (M : Nat → Nat → Fq) (piv : Nat → Nat) : Prop where
  lt : ∀ j, j < r → piv j < w
  inc : ∀ i j, i < j → j < r → piv i < piv j
  one : ∀ j, j < r → M j (piv j) = 1
  oth : ∀ i j, i < r → j < r → i ≠ j → M i (piv j) = 0
  lead : ∀ i c, i < r → c < piv i → M i c = 0
theorem Red.rep {w r : Nat} {M : Nat → Nat → Fq} {piv : Nat → Nat} (h : Red w r M piv) {x : Nat → Fq} (hx : Sp w r M x) : ∀ c, c < w → x c = sumF (fun j => x (piv j) * M j c) r := by
  induction hx with
  | zero h0 =>
    intro c hc
    rw [h0 c hc]
    refine (sumF_zero fun j hj => ?_).symm
    rw [h0 _ (h.lt j hj)]
    grind
  | row i hi h0 =>
    intro c hc
    rw [sumF_delta (i := i) hi]
    · rw [h0 c hc, h0 _ (h.lt i hi), h.one i hi]; grind
    · intro j hj hn
      rw [h0 _ (h.lt j hj), h.oth i j hi hj (by omega)]; grind
  | @add x y z k _ _ h0 ih1 ih2 =>
    intro c hc
    rw [h0 c hc, ih1 c hc, ih2 c hc]
    refine (sumF_lin fun j hj => ?_).symm
    rw [h0 _ (h.lt j hj)]
    grind
theorem Red.piv_of {w r : Nat} {M : Nat → Nat → Fq} {piv : Nat → Nat} (h : Red w r M piv) {x : Nat → Fq} (hx : Sp w r M x) {c : Nat} (hc : c < w) (hl : ∀ d, d < c → x d = 0) (hn : x c ≠ 0) : ∃ j, j < r ∧ piv j = c := by
  apply Classical.byContradiction
  intro hno
  apply hn
  rw [h.rep hx c hc]
  refine sumF_zero fun j hj => ?_
  have hne : piv j ≠ c := fun e => hno ⟨j, hj, e⟩
  by_cases hlt : piv j < c
  · rw [hl _ hlt]; grind
  · rw [h.lead j c hj (by omega)]; grind
theorem Red.row {w r : Nat} {M : Nat → Nat → Fq} {i : Nat} (hi : i < r) : Sp w r M (M i) := .row i hi (fun _ _ => rfl)
theorem Red.piv_sub {w r r' : Nat} {M M' : Nat → Nat → Fq} {piv piv' : Nat → Nat} (h : Red w r M piv) (h' : Red w r' M' piv') (hs : ∀ x, Sp w r M x → Sp w r' M' x) {i : Nat} (hi : i < r) : ∃ j, j < r' ∧ piv' j = piv i :=
  h'.piv_of (hs _ (Red.row hi)) (h.lt i hi) (fun d hd => h.lead i d hi hd) (by rw [h.one i hi]; decide)
theorem Red.piv_eq {w r r' : Nat} {M M' : Nat → Nat → Fq} {piv piv' : Nat → Nat} (h : Red w r M piv) (h' : Red w r' M' piv') (hs : ∀ x, Sp w r M x → Sp w r' M' x) (hs' : ∀ x, Sp w r' M' x → Sp w r M x) : ∀ n i, i < n → i < r → i < r' → piv i = piv' i
  | 0, i, hn, _, _ => absurd hn (Nat.not_lt_zero _)
  | n + 1, i, hn, hr, hr' => by
    have ih := h.piv_eq h' hs hs' n
    obtain ⟨j, hj, ej⟩ := h.piv_sub h' hs hr
    obtain ⟨k, hk, ek⟩ := h'.piv_sub h hs' hr'
    have hj2 : i ≤ j := by
      refine Nat.le_of_not_lt fun hlt => ?_
      have e := ih j (by omega) (by omega) hj
      have := h.inc j i hlt hr
      omega
    have hk2 : i ≤ k := by
      refine Nat.le_of_not_lt fun hlt => ?_
      have e := ih k (by omega) hk (by omega)
      have := h'.inc k i hlt hr'
      omega
    have a1 : piv' i ≤ piv' j := by
      by_cases e : i = j
      · rw [e]; exact Nat.le_refl _
      · exact Nat.le_of_lt (h'.inc i j (by omega) hj)
    have a2 : piv i ≤ piv k := by
      by_cases e : i = k
      · rw [e]; exact Nat.le_refl _
      · exact Nat.le_of_lt (h.inc i k (by omega) hk)
    omega
theorem Red.le {w r r' : Nat} {M M' : Nat → Nat → Fq} {piv piv' : Nat → Nat} (h : Red w r M piv) (h' : Red w r' M' piv') (hs : ∀ x, Sp w r M x → Sp w r' M' x) (hs' : ∀ x, Sp w r' M' x → Sp w r M x) : r ≤ r' := by
  refine Nat.le_of_not_lt fun hlt => ?_
  obtain ⟨j, hj, ej⟩ := h.piv_sub h' hs hlt
  have e := h.piv_eq h' hs hs' (j + 1) j (by omega) (by omega) hj
  have := h.inc j r' hj hlt
  omega
theorem Red.unique {w r r' : Nat} {M M' : Nat → Nat → Fq} {piv piv' : Nat → Nat} (h : Red w r M piv) (h' : Red w r' M' piv') (hs : ∀ x, Sp w r M x → Sp w r' M' x) (hs' : ∀ x, Sp w r' M' x → Sp w r M x) : r = r' ∧ ∀ i, i < r → ∀ c, c < w → M i c = M' i c := by
  have e := Nat.le_antisymm (h.le h' hs hs') (h'.le h hs' hs)
  refine ⟨e, fun i hi c hc => ?_⟩
  have hp := fun j (hj : j < r) => h.piv_eq h' hs hs' (j + 1) j (by omega) hj (by omega)
  rw [h'.rep (hs _ (Red.row hi)) c hc, sumF_delta (i := i) (by omega)]
  · rw [← hp i hi, h.one i hi]; grind
  · intro j hj hn
    rw [← hp j (by omega), h.oth i j hi (by omega) (by omega)]; grind
structure Ech (w n : Nat) (M : Nat → Nat → Fq) (at_ k : Nat) (piv : Nat → Nat) : Prop where
  le : at_ ≤ n
  lt : ∀ j, j < at_ → piv j < k
  inc : ∀ i j, i < j → j < at_ → piv i < piv j
  one : ∀ j, j < at_ → M j (piv j) = 1
  oth : ∀ i j, i < at_ → j < at_ → i ≠ j → M i (piv j) = 0
  lead : ∀ i c, i < at_ → c < piv i → M i c = 0
  low : ∀ i c, at_ ≤ i → i < n → c < k → M i c = 0
theorem Ech.zero {w n : Nat} {M : Nat → Nat → Fq} {piv : Nat → Nat} : Ech w n M 0 0 piv :=
  by
  refine ⟨Nat.zero_le _, ?_, ?_, ?_, ?_, ?_, ?_⟩ <;> intros <;> omega
theorem Ech.skip {w n at_ k : Nat} {M : Nat → Nat → Fq} {piv : Nat → Nat} (h : Ech w n M at_ k piv) (h0 : ∀ i, at_ ≤ i → i < n → M i k = 0) : Ech w n M at_ (k + 1) piv :=
  ⟨h.le, fun j hj => by have := h.lt j hj; omega, h.inc, h.one, h.oth, h.lead, fun i c h1 h2 h3 => by
    by_cases e : c = k
    · rw [e]; exact h0 i h1 h2
    · exact h.low i c h1 h2 (by omega)⟩
def stepM (M : Nat → Nat → Fq) (at_ p k : Nat) (s : Fq) (i c : Nat) : Fq :=
  if i = at_ then s * M p c else (if i = p then M at_ c else M i c) - (if i = p then M at_ k else M i k) * (s * M p c)
theorem Ech.step {w n at_ p k : Nat} {M : Nat → Nat → Fq} {piv : Nat → Nat} {s : Fq} (h : Ech w n M at_ k piv) (hp0 : at_ ≤ p) (hp1 : p < n) (hs : s * M p k = 1) : Ech w n (stepM M at_ p k s) (at_ + 1) (k + 1) (fun j => if j = at_ then k else piv j) := by
  have hz : ∀ c, c < k → M p c = 0 := fun c hc => h.low p c hp0 hp1 hc
  have hlow : ∀ i c, i < at_ → c < k → stepM M at_ p k s i c = M i c := fun i c hi hc => by
    unfold stepM
    rw [if_neg (by omega), if_neg (by omega), if_neg (by omega), hz c hc]; grind
  have hcol : ∀ i, i ≠ at_ → stepM M at_ p k s i k = 0 := fun i hi => by
    unfold stepM
    rw [if_neg hi, hs]; grind
  have hat : ∀ c, stepM M at_ p k s at_ c = s * M p c := fun c => if_pos rfl
  refine ⟨by omega, ?_, ?_, ?_, ?_, ?_, ?_⟩
  · intro j hj
    (try dsimp only)
    split
    · omega
    · have := h.lt j (by omega); omega
  · intro i j hij hj
    (try dsimp only)
    rw [if_neg (show ¬ i = at_ by omega)]
    split
    · exact h.lt i (by omega)
    · exact h.inc i j hij (by omega)
  · intro j hj
    (try dsimp only)
    split
    · rename_i e; rw [e, hat, hs]
    · rw [hlow _ _ (by omega) (h.lt j (by omega))]; exact h.one j (by omega)
  · intro i j hi hj hn
    (try dsimp only)
    split
    · rename_i e; exact hcol i (by omega)
    · by_cases e : i = at_
      · rw [e, hat, hz _ (h.lt j (by omega))]; grind
      · rw [hlow _ _ (by omega) (h.lt j (by omega))]; exact h.oth i j (by omega) (by omega) hn
  · intro i c hi hc
    (try dsimp only at hc)
    split at hc
    · rename_i e; rw [e, hat, hz c hc]; grind
    · rw [hlow i c (by omega) (by have := h.lt i (by omega); omega)]; exact h.lead i c (by omega) hc
  · intro i c h1 h2 hc
    by_cases e : c = k
    · rw [e]; exact hcol i (by omega)
    · unfold stepM
      rw [if_neg (by omega), hz c (by omega)]
      split
      · rw [h.low at_ c (Nat.le_refl _) (by omega) (by omega)]; grind
      · rw [h.low i c (by omega) h2 (by omega)]; grind
theorem step_sp {w n at_ p k : Nat} {M : Nat → Nat → Fq} {s : Fq} (ha : at_ < n) (hp1 : p < n) {x : Nat → Fq} (hx : Sp w n (stepM M at_ p k s) x) : Sp w n M x := by
  have h0 : Sp w n M (fun c => s * M p c) := (Sp.row p hp1 (fun _ _ => rfl) : Sp w n M (M p)).scale s (fun _ _ => rfl)
  refine hx.of fun i hi => ?_
  by_cases e : i = at_
  · exact (h0.scale 1 (fun c _ => by unfold stepM; rw [if_pos e]; grind))
  · have hb : Sp w n M (fun c => if i = p then M at_ c else M i c) := by
      by_cases e2 : i = p
      · exact .row at_ ha (fun c _ => by rw [if_pos e2])
      · exact .row i hi (fun c _ => by rw [if_neg e2])
    exact .add (-(if i = p then M at_ k else M i k)) hb h0 (fun c _ => by unfold stepM; rw [if_neg e]; grind)
theorem step_sp' {w n at_ p k : Nat} {M : Nat → Nat → Fq} {s : Fq} (ha : at_ < n) (hp1 : p < n) (hs : s * M p k = 1) {x : Nat → Fq} (hx : Sp w n M x) : Sp w n (stepM M at_ p k s) x := by
  have h0 : Sp w n (stepM M at_ p k s) (fun c => s * M p c) := .row at_ ha (fun c _ => by unfold stepM; rw [if_pos rfl])
  have hp : Sp w n (stepM M at_ p k s) (M p) := h0.scale (M p k) (fun c _ => by grind)
  have hb : ∀ i, i < n → i ≠ at_ → Sp w n (stepM M at_ p k s) (fun c => if i = p then M at_ c else M i c) := fun i hi hn =>
    .add (if i = p then M at_ k else M i k) (.row (x := stepM M at_ p k s i) i hi (fun _ _ => rfl)) h0 (fun c _ => by unfold stepM; rw [if_neg hn]; grind)
  refine hx.of fun i hi => ?_
  by_cases e : i = p
  · rw [e]; exact hp
  by_cases e2 : i = at_
  · have := hb p hp1 (by omega)
    exact this.scale 1 (fun c _ => by rw [if_pos rfl, e2]; grind)
  · have := hb i hi e2
    exact this.scale 1 (fun c _ => by rw [if_neg e]; grind)
theorem Ech.red {w n at_ k : Nat} {M : Nat → Nat → Fq} {piv : Nat → Nat} (h : Ech w n M at_ k piv) (hk : k ≤ w) : Red w at_ M piv :=
  ⟨fun j hj => by have := h.lt j hj; omega, h.inc, h.one, h.oth, h.lead⟩
theorem Ech.sp {w n at_ k : Nat} {M : Nat → Nat → Fq} {piv : Nat → Nat} (h : Ech w n M at_ k piv) (hk : w ≤ k ∨ n ≤ at_) {x : Nat → Fq} : Sp w at_ M x ↔ Sp w n M x := by
  have hle := h.le
  constructor
  · exact fun hx => hx.of fun i hi => .row i (by omega) (fun _ _ => rfl)
  · refine fun hx => hx.of fun i hi => ?_
    by_cases e : i < at_
    · exact .row i e (fun _ _ => rfl)
    · exact .zero fun c hc => h.low i c (by omega) hi (by omega)
def redM (M : Nat → Nat → Fq) (piv : Nat → Nat) (v : Nat → Fq) : Nat → Nat → Fq
  | 0, c => v c
  | i + 1, c => redM M piv v i c - redM M piv v i (piv i) * M i c
theorem Red.red_at {w r : Nat} {M : Nat → Nat → Fq} {piv : Nat → Nat} {v : Nat → Fq} (h : Red w r M piv) : ∀ i, i ≤ r → ∀ j, j < r → redM M piv v i (piv j) = if j < i then 0 else v (piv j)
  | 0, _, j, _ => by rw [if_neg (by omega)]; rfl
  | i + 1, hi, j, hj => by
    have ih := h.red_at (v := v) i (by omega)
    show redM M piv v i (piv j) - redM M piv v i (piv i) * M i (piv j) = _
    by_cases e : j = i
    · subst e
      rw [h.one j hj, if_pos (by omega)]; grind
    · rw [h.oth i j (by omega) hj (by omega), ih j hj]
      split
      · rw [if_pos (by omega)]; grind
      · rw [if_neg (by omega)]; grind
theorem red_sp {w r : Nat} {M : Nat → Nat → Fq} {piv : Nat → Nat} {v : Nat → Fq} {n : Nat} {N : Nat → Nat → Fq} (hM : ∀ i, i < r → Sp w n N (M i)) (hv : Sp w n N v) : ∀ i, i ≤ r → Sp w n N (redM M piv v i)
  | 0, _ => hv
  | i + 1, hi => .add (-(redM M piv v i (piv i))) (red_sp (M := M) (piv := piv) (v := v) hM hv i (by omega)) (hM i (by omega)) (fun c _ => by
      show redM M piv v i c - redM M piv v i (piv i) * M i c = _
      grind)
theorem red_sp' {w r : Nat} {M : Nat → Nat → Fq} {piv : Nat → Nat} {v : Nat → Fq} {n : Nat} {N : Nat → Nat → Fq} (hM : ∀ i, i < r → Sp w n N (M i)) : ∀ i, i ≤ r → Sp w n N (redM M piv v i) → Sp w n N v
  | 0, _, hv => hv
  | i + 1, hi, hv => red_sp' (M := M) (piv := piv) (v := v) hM i (by omega) (.add (redM M piv v i (piv i)) hv (hM i (by omega)) (fun c _ => by
      show _ = (redM M piv v i c - redM M piv v i (piv i) * M i c) + _
      grind))
def insM (M : Nat → Nat → Fq) (u : Nat → Fq) (q at_ : Nat) (s : Fq) (i c : Nat) : Fq :=
  if i = at_ then s * u c else (if i < at_ then M i c - M i q * (s * u c) else M (i - 1) c - M (i - 1) q * (s * u c))
theorem Red.ins {w r : Nat} {M : Nat → Nat → Fq} {piv : Nat → Nat} {u : Nat → Fq} {q at_ : Nat} {s : Fq} (h : Red w r M piv) (hu : ∀ j, j < r → u (piv j) = 0) (hq : q < w) (hl : ∀ c, c < q → u c = 0) (hs : s * u q = 1) (ha : at_ ≤ r) (hlo : ∀ j, j < at_ → piv j < q) (hhi : ∀ j, at_ ≤ j → j < r → q < piv j) : Red w (r + 1) (insM M u q at_ s) (fun i => if i = at_ then q else if i < at_ then piv i else piv (i - 1)) := by
  have hat : ∀ c, insM M u q at_ s at_ c = s * u c := fun c => if_pos rfl
  have hlt : ∀ i c, i < at_ → insM M u q at_ s i c = M i c - M i q * (s * u c) := fun i c hi => by unfold insM; rw [if_neg (by omega), if_pos hi]
  have hgt : ∀ i c, at_ < i → insM M u q at_ s i c = M (i - 1) c - M (i - 1) q * (s * u c) := fun i c hi => by unfold insM; rw [if_neg (by omega), if_neg (by omega)]
  refine ⟨?_, ?_, ?_, ?_, ?_⟩
  · intro j hj
    (try dsimp only)
    split
    · exact hq
    · split
      · exact h.lt j (by omega)
      · exact h.lt (j - 1) (by omega)
  · intro i j hij hj
    (try dsimp only)
    by_cases e1 : i = at_
    · rw [if_pos e1, if_neg (by omega), if_neg (by omega)]
      exact hhi (j - 1) (by omega) (by omega)
    · rw [if_neg e1]
      by_cases e2 : i < at_
      · rw [if_pos e2]
        by_cases e3 : j = at_
        · rw [if_pos e3]; exact hlo i e2
        · rw [if_neg e3]
          by_cases e4 : j < at_
          · rw [if_pos e4]; exact h.inc i j hij (by omega)
          · rw [if_neg e4]
            by_cases e5 : i = j - 1
            · omega
            · exact h.inc i (j - 1) (by omega) (by omega)
      · rw [if_neg e2, if_neg (by omega), if_neg (by omega)]
        exact h.inc (i - 1) (j - 1) (by omega) (by omega)
  · intro j hj
    (try dsimp only)
    by_cases e1 : j = at_
    · rw [if_pos e1, e1, hat, hs]
    · rw [if_neg e1]
      by_cases e2 : j < at_
      · rw [if_pos e2, hlt j _ e2, hu j (by omega), h.one j (by omega)]; grind
      · rw [if_neg e2, hgt j _ (by omega), hu (j - 1) (by omega), h.one (j - 1) (by omega)]; grind
  · intro i j hi hj hn
    (try dsimp only)
    by_cases e1 : j = at_
    · rw [if_pos e1]
      by_cases e2 : i < at_
      · rw [hlt i _ e2, hs]; grind
      · rw [hgt i _ (by omega), hs]; grind
    · rw [if_neg e1]
      have key : ∀ m, m < r → (∀ i', i' < r → i' ≠ m → M i' (piv m) = 0) := fun m hm i' hi' hn' => h.oth i' m hi' hm hn'
      by_cases e2 : j < at_
      · rw [if_pos e2]
        have u0 := hu j (by omega)
        by_cases e3 : i = at_
        · rw [e3, hat, u0]; grind
        · by_cases e4 : i < at_
          · rw [hlt i _ e4, u0, key j (by omega) i (by omega) (by omega)]; grind
          · rw [hgt i _ (by omega), u0, key j (by omega) (i - 1) (by omega) (by omega)]; grind
      · rw [if_neg e2]
        have u0 := hu (j - 1) (by omega)
        by_cases e3 : i = at_
        · rw [e3, hat, u0]; grind
        · by_cases e4 : i < at_
          · rw [hlt i _ e4, u0, key (j - 1) (by omega) i (by omega) (by omega)]; grind
          · rw [hgt i _ (by omega), u0, key (j - 1) (by omega) (i - 1) (by omega) (by omega)]; grind
  · intro i c hi hc
    (try dsimp only at hc)
    by_cases e1 : i = at_
    · rw [if_pos e1] at hc
      rw [e1, hat, hl c hc]; grind
    · rw [if_neg e1] at hc
      by_cases e2 : i < at_
      · rw [if_pos e2] at hc
        have := hlo i e2
        rw [hlt i _ e2, hl c (by omega), h.lead i c (by omega) hc]; grind
      · rw [if_neg e2] at hc
        have h3 := hhi (i - 1) (by omega) (by omega)
        rw [hgt i _ (by omega), h.lead (i - 1) q (by omega) h3, h.lead (i - 1) c (by omega) hc]; grind
theorem ins_sp {w r : Nat} {M : Nat → Nat → Fq} {u : Nat → Fq} {q at_ n : Nat} {s : Fq} {N : Nat → Nat → Fq} (hM : ∀ i, i < r → Sp w n N (M i)) (hu : Sp w n N u) (ha : at_ ≤ r) {x : Nat → Fq} (hx : Sp w (r + 1) (insM M u q at_ s) x) : Sp w n N x := by
  have h0 : Sp w n N (fun c => s * u c) := hu.scale s (fun _ _ => rfl)
  refine hx.of fun i hi => ?_
  by_cases e1 : i = at_
  · exact h0.scale 1 (fun c _ => by unfold insM; rw [if_pos e1]; grind)
  by_cases e2 : i < at_
  · exact .add (-(M i q)) (hM i (by omega)) h0 (fun c _ => by unfold insM; rw [if_neg e1, if_pos e2]; grind)
  · exact .add (-(M (i - 1) q)) (hM (i - 1) (by omega)) h0 (fun c _ => by unfold insM; rw [if_neg e1, if_neg e2]; grind)
theorem ins_sp' {w r : Nat} {M : Nat → Nat → Fq} {u : Nat → Fq} {q at_ : Nat} {s : Fq} (hs : s * u q = 1) (ha : at_ ≤ r) : Sp w (r + 1) (insM M u q at_ s) u ∧ ∀ i, i < r → Sp w (r + 1) (insM M u q at_ s) (M i) := by
  have h0 : Sp w (r + 1) (insM M u q at_ s) (fun c => s * u c) := .row at_ (by omega) (fun c _ => by unfold insM; rw [if_pos rfl])
  refine ⟨h0.scale (u q) (fun c _ => by grind), fun i hi => ?_⟩
  by_cases e2 : i < at_
  · exact .add (M i q) (.row (x := insM M u q at_ s i) i (by omega) (fun _ _ => rfl)) h0 (fun c _ => by unfold insM; rw [if_neg (by omega), if_pos e2]; grind)
  · exact .add (M i q) (.row (x := insM M u q at_ s (i + 1)) (i + 1) (by omega) (fun _ _ => rfl)) h0 (fun c _ => by
      unfold insM
      rw [if_neg (by omega), if_neg (by omega), show i + 1 - 1 = i from rfl]; grind)
end LA
end Go.Proofs.YtbepgedckfhifaaGreat
