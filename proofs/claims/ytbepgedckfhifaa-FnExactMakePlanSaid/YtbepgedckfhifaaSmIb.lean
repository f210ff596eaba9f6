/-
  Reduced matrices as rows of numbers (plain): vectors reduced, inserted; elimination by columns; elimination with one vector more is insertion.
-/
import Derived.Test.YtbepgedckfhifaaSmIa
namespace Go.Proofs.Ytbepgedckfhifaa
namespace LA
set_option linter.unusedVariables false
/-- The field element of a number. -/
def q (x : Int) : Fq := ⟨(x % 1019).toNat, by omega⟩
theorem q_inj {x y : Int} (h : q x = q y) : x % 1019 = y % 1019 := by
  have h1 : (x % 1019).toNat = (y % 1019).toNat := congrArg Fin.val h
  omega
theorem q_zero : q 0 = 0 := rfl
def FB (x : Int) : Prop := 0 ≤ x ∧ x < 1019
theorem FB.mod {x : Int} : FB (x % 1019) := ⟨by omega, by omega⟩
theorem q_inj' {x y : Int} (hx : FB x) (hy : FB y) (h : q x = q y) : x = y := by
  have := q_inj h
  obtain ⟨a, b⟩ := hx
  obtain ⟨c, d⟩ := hy
  omega
/-- A vector so wide. -/
def VecOk (w : Nat) (l : List Int) : Prop := l.length = w ∧ ∀ i, i < w → FB (l.getD i 0)
def vf (l : List Int) : Nat → Fq := fun c => q (l.getD c 0)
/-- A vector and a multiple of another one. -/
def addS (a b : List Int) (k : Int) : List Int := (List.range a.length).map fun i => (a.getD i 0 + k * b.getD i 0) % 1019
def sclS (a : List Int) (k : Int) : List Int := (List.range a.length).map fun i => (k * a.getD i 0) % 1019
theorem getD_range {f : Nat → Int} {n i : Nat} (h : i < n) : ((List.range n).map f).getD i 0 = f i := by
  simp [List.getD_eq_getElem?_getD, h]
theorem addS_ok {w : Nat} {a b : List Int} {k : Int} (ha : a.length = w) : VecOk w (addS a b k) :=
  ⟨by simp [addS, ha], fun i hi => by rw [addS, getD_range (by omega)]; exact FB.mod⟩
/-- The first place that is not zero, or the length. -/
def lead : List Int → Nat
  | [] => 0
  | a :: l => if a ≠ 0 then 0 else lead l + 1
theorem lead_le : ∀ (l : List Int), lead l ≤ l.length
  | [] => Nat.le_refl _
  | a :: l => by
    unfold lead
    split
    · omega
    · have := lead_le l; simp; omega
theorem lead_lt : ∀ (l : List Int) (c : Nat), c < lead l → l.getD c 0 = 0
  | [], c, h => absurd h (Nat.not_lt_zero _)
  | a :: l, c, h => by
    unfold lead at h
    split at h
    · omega
    · rename_i ha
      have ha : a = 0 := Classical.byContradiction ha
      cases c with
      | zero => exact ha
      | succ c => simpa using lead_lt l c (by omega)
theorem lead_ne : ∀ (l : List Int), lead l < l.length → l.getD (lead l) 0 ≠ 0
  | [], h => absurd h (Nat.not_lt_zero _)
  | a :: l, h => by
    unfold lead at h ⊢
    by_cases ha : a ≠ 0
    · rw [if_pos ha]; simpa using ha
    · rw [if_neg ha] at h ⊢
      have := lead_ne l (by simp at h; omega)
      simpa using this
theorem lead_eq {l : List Int} {c : Nat} (hc : c < l.length) (h0 : ∀ d, d < c → l.getD d 0 = 0) (h1 : l.getD c 0 ≠ 0) : lead l = c := by
  have a : ¬ lead l < c := fun hlt => lead_ne l (by omega) (h0 _ hlt)
  have b : ¬ c < lead l := fun hlt => h1 (lead_lt l c hlt)
  omega
def invI (x : Int) : Int := x ^ (1017 : Nat) % 1019
/-- The rows of a matrix. -/
def mf (R : List (List Int)) : Nat → Nat → Fq := fun i => vf (R.getD i [])
def lds (R : List (List Int)) : Nat → Nat := fun i => lead (R.getD i [])
structure RedL (w : Nat) (R : List (List Int)) : Prop where
  ok : ∀ i, i < R.length → VecOk w (R.getD i [])
  red : Red w R.length (mf R) (lds R)
theorem red_lead {w r : Nat} {R : List (List Int)} {piv : Nat → Nat} (ho : ∀ i, i < r → VecOk w (R.getD i [])) (h : Red w r (mf R) piv) {i : Nat} (hi : i < r) : lead (R.getD i []) = piv i := by
  have hw := ho i hi
  refine lead_eq (by rw [hw.1]; exact h.lt i hi) (fun d hd => ?_) (fun e => ?_)
  · have := h.lead i d hi hd
    exact q_inj' (hw.2 d (by have := h.lt i hi; omega)) ⟨by omega, by omega⟩ (this.trans q_zero.symm)
  · have := h.one i hi
    unfold mf vf at this
    rw [e] at this
    exact absurd this (by decide)
theorem Red.congr {w r : Nat} {M M' : Nat → Nat → Fq} {piv piv' : Nat → Nat} (h : Red w r M piv) (hM : ∀ i c, i < r → c < w → M' i c = M i c) (hp : ∀ i, i < r → piv' i = piv i) : Red w r M' piv' := by
  refine ⟨fun j hj => by rw [hp j hj]; exact h.lt j hj, fun i j hij hj => by rw [hp i (by omega), hp j hj]; exact h.inc i j hij hj, fun j hj => by rw [hp j hj, hM _ _ hj (h.lt j hj)]; exact h.one j hj, fun i j hi hj hn => by rw [hp j hj, hM _ _ hi (h.lt j hj)]; exact h.oth i j hi hj hn, fun i c hi hc => ?_⟩
  rw [hp i hi] at hc
  rw [hM _ _ hi (by have := h.lt i hi; omega)]
  exact h.lead i c hi hc
theorem RedL.of {w : Nat} {R : List (List Int)} {piv : Nat → Nat} (ho : ∀ i, i < R.length → VecOk w (R.getD i [])) (h : Red w R.length (mf R) piv) : RedL w R :=
  ⟨ho, h.congr (fun _ _ _ _ => rfl) (fun _ hi => red_lead ho h hi)⟩
theorem RedL.nil {w : Nat} : RedL w [] := ⟨fun i hi => absurd hi (Nat.not_lt_zero _), by refine ⟨?_, ?_, ?_, ?_, ?_⟩ <;> intros <;> (simp only [List.length_nil] at *; omega)⟩
/-- A vector, reduced by so many rows. -/
def redV (R : List (List Int)) (v : List Int) : Nat → List Int
  | 0 => v
  | i + 1 => addS (redV R v i) (R.getD i []) ((1019 - (redV R v i).getD (lead (R.getD i [])) 0) % 1019)
/-- One row after the new one is taken off; the new row's place; the rows with it. -/
def insR (R : List (List Int)) (e : List Int) (qx i : Nat) : List Int := addS (R.getD i []) e ((1019 - (R.getD i []).getD qx 0) % 1019)
def insA (R : List (List Int)) (e : List Int) (qx : Nat) : Nat → Nat
  | 0 => 0
  | i + 1 => if lead (insR R e qx i) < qx then i + 1 else insA R e qx i
def insW (R : List (List Int)) (e : List Int) (qx : Nat) : List (List Int) :=
  let S := (List.range R.length).map (insR R e qx)
  S.take (insA R e qx R.length) ++ [e] ++ S.drop (insA R e qx R.length)
def insE (u : List Int) : List Int := sclS u (invI (u.getD (lead u) 0))
def insL (R : List (List Int)) (v : List Int) : List (List Int) :=
  let u := redV R v R.length
  if lead u < u.length then insW R (insE u) (lead u) else R
theorem Sp.congr {w n : Nat} {M M' : Nat → Nat → Fq} (h : ∀ i c, i < n → c < w → M' i c = M i c) {x : Nat → Fq} : Sp w n M' x ↔ Sp w n M x := by
  constructor
  · exact fun hx => hx.of fun i hi => .row i hi (fun c hc => h i c hi hc)
  · exact fun hx => hx.of fun i hi => .row i hi (fun c hc => (h i c hi hc).symm)
theorem Sp.ext {w n : Nat} {M : Nat → Nat → Fq} {x y : Nat → Fq} (hx : Sp w n M x) (h : ∀ c, c < w → y c = x c) : Sp w n M y :=
  hx.scale 1 (fun c hc => by rw [h c hc]; grind)
structure InsOk (w : Nat) (R : List (List Int)) (v u : List Int) : Prop where
  ok : VecOk w u
  piv : ∀ j, j < R.length → vf u (lds R j) = 0
  sp : ∀ {n : Nat} {N : Nat → Nat → Fq}, (∀ i, i < R.length → Sp w n N (mf R i)) → (Sp w n N (vf u) ↔ Sp w n N (vf v))
/-- The first row from a place on that is not zero in a column, or the number of rows. -/
def pivAt (rows : List (List Int)) (k : Nat) : Nat → Nat → Nat
  | 0, p => p
  | n + 1, p => if (rows.getD p []).getD k 0 ≠ 0 then p else pivAt rows k n (p + 1)
/-- The pivot's row brought up and made one; the others without it. -/
def upE (rows : List (List Int)) (p k : Nat) : List Int := sclS (rows.getD p []) (invI ((rows.getD p []).getD k 0))
def upR (rows : List (List Int)) (a p k : Nat) : List (List Int) := (rows.set p (rows.getD a [])).set a (upE rows p k)
def offR (R : List (List Int)) (e : List Int) (a k i : Nat) : List Int :=
  if i ≠ a ∧ (R.getD i []).getD k 0 ≠ 0 then addS (R.getD i []) e (1019 - (R.getD i []).getD k 0) else R.getD i []
def stepL (rows : List (List Int)) (a p k : Nat) : List (List Int) := (List.range rows.length).map (offR (upR rows a p k) (upE rows p k) a k)
def elimS (s : List (List Int) × Nat) (k : Nat) : List (List Int) × Nat :=
  if s.2 < s.1.length ∧ pivAt s.1 k (s.1.length - s.2) s.2 < s.1.length then (stepL s.1 s.2 (pivAt s.1 k (s.1.length - s.2) s.2) k, s.2 + 1) else s
def elim (m : List (List Int)) : Nat → List (List Int) × Nat
  | 0 => (m, 0)
  | k + 1 => elimS (elim m k) k
/-- The rows, reduced by so many columns. -/
def redL (m : List (List Int)) (w : Nat) : List (List Int) := (elim m w).1.take (elim m w).2
structure ElimOk (w : Nat) (m : List (List Int)) (k : Nat) (s : List (List Int) × Nat) (piv : Nat → Nat) : Prop where
  len : s.1.length = m.length
  ok : ∀ i, i < m.length → VecOk w (s.1.getD i [])
  ech : Ech w m.length (mf s.1) s.2 k piv
  sp : ∀ x, Sp w m.length (mf s.1) x ↔ Sp w m.length (mf m) x
theorem Ech.congr {w n a k : Nat} {M M' : Nat → Nat → Fq} {piv : Nat → Nat} (h : Ech w n M a k piv) (hk : k ≤ w) (hM : ∀ i c, i < n → c < w → M' i c = M i c) : Ech w n M' a k piv := by
  have hle := h.le
  refine ⟨h.le, h.lt, h.inc, fun j hj => ?_, fun i j hi hj hn => ?_, fun i c hi hc => ?_, fun i c h1 h2 h3 => ?_⟩
  · rw [hM _ _ (by omega) (by have := h.lt j hj; omega)]; exact h.one j hj
  · rw [hM _ _ (by omega) (by have := h.lt j hj; omega)]; exact h.oth i j hi hj hn
  · rw [hM _ _ (by omega) (by have := h.lt i hi; omega)]; exact h.lead i c hi hc
  · rw [hM _ _ h2 (by omega)]; exact h.low i c h1 h2 h3
end LA
end Go.Proofs.Ytbepgedckfhifaa
