/-
  Reduced matrices as rows of numbers (plain): vectors reduced, inserted; elimination by columns; elimination with one vector more is insertion.
-/
import Derived.Test.YtbepgedckfhifaaGreatFiIa
namespace Go.Proofs.YtbepgedckfhifaaGreat
namespace LA
set_option linter.unusedVariables false
def q (x : Int) : Fq := ⟨(x % 1019).toNat, by omega⟩
theorem q_eq {x y : Int} (h : x % 1019 = y % 1019) : q x = q y := by unfold q; simp only [h]
theorem q_inj {x y : Int} (h : q x = q y) : x % 1019 = y % 1019 := by
  have h1 : (x % 1019).toNat = (y % 1019).toNat := congrArg Fin.val h
  omega
theorem q_mod {x : Int} : q (x % 1019) = q x := q_eq (Int.emod_emod_of_dvd _ (Int.dvd_refl _))
theorem q_zero : q 0 = 0 := rfl
theorem q_one : q 1 = 1 := rfl
theorem q_add (x y : Int) : q (x + y) = q x + q y := by
  apply Fin.ext
  rw [Fin.val_add]
  show ((x + y) % 1019).toNat = ((x % 1019).toNat + (y % 1019).toNat) % 1019
  omega
theorem q_mul (x y : Int) : q (x * y) = q x * q y := by
  apply Fin.ext
  rw [Fin.val_mul]
  show ((x * y) % 1019).toNat = ((x % 1019).toNat * (y % 1019).toNat) % 1019
  have e : x * y % 1019 = ((x % 1019) * (y % 1019)) % 1019 := Int.mul_emod x y 1019
  rw [e]
  generalize hx : x % 1019 = a
  generalize hy : y % 1019 = b
  have ha : 0 ≤ a := by omega
  have hb : 0 ≤ b := by omega
  obtain ⟨m, rfl⟩ := Int.eq_ofNat_of_zero_le ha
  obtain ⟨n, rfl⟩ := Int.eq_ofNat_of_zero_le hb
  have e2 : ((m : Int) * (n : Int)) = ((m * n : Nat) : Int) := by simp
  rw [e2]
  simp only [Int.toNat_natCast]
  omega
theorem q_neg (x : Int) : q (1019 - x) = - q x := by
  have h := q_add (1019 - x) x
  have e : q (1019 - x + x) = 0 := q_eq (x := 1019 - x + x) (y := 0) (by omega)
  rw [e] at h
  grind
def FB (x : Int) : Prop := 0 ≤ x ∧ x < 1019
theorem FB.mod {x : Int} : FB (x % 1019) := ⟨by omega, by omega⟩
theorem q_inj' {x y : Int} (hx : FB x) (hy : FB y) (h : q x = q y) : x = y := by
  have := q_inj h
  obtain ⟨a, b⟩ := hx
  obtain ⟨c, d⟩ := hy
  omega
theorem q_ne {x : Int} (hx : FB x) (h : x ≠ 0) : q x ≠ 0 := fun e => h (q_inj' hx ⟨by omega, by omega⟩ (e.trans q_zero.symm))
def VecOk (w : Nat) (l : List Int) : Prop := l.length = w ∧ ∀ i, i < w → FB (l.getD i 0)
def vf (l : List Int) : Nat → Fq := fun c => q (l.getD c 0)
theorem vec_ext {w : Nat} {a b : List Int} (ha : VecOk w a) (hb : VecOk w b) (h : ∀ c, c < w → vf a c = vf b c) : a = b := by
  apply List.ext_getElem (by rw [ha.1, hb.1])
  intro i h1 h2
  have e := q_inj' (ha.2 i (by have := ha.1; omega)) (hb.2 i (by have := hb.1; omega)) (h i (by have := ha.1; omega))
  rw [List.getD_eq_getElem?_getD, List.getD_eq_getElem?_getD, List.getElem?_eq_getElem h1, List.getElem?_eq_getElem h2] at e
  exact e
def addS (a b : List Int) (k : Int) : List Int := (List.range a.length).map fun i => (a.getD i 0 + k * b.getD i 0) % 1019
def sclS (a : List Int) (k : Int) : List Int := (List.range a.length).map fun i => (k * a.getD i 0) % 1019
theorem getD_range {f : Nat → Int} {n i : Nat} (h : i < n) : ((List.range n).map f).getD i 0 = f i := by
  simp [List.getD_eq_getElem?_getD, h]
theorem addS_ok {w : Nat} {a b : List Int} {k : Int} (ha : a.length = w) : VecOk w (addS a b k) :=
  ⟨by simp [addS, ha], fun i hi => by rw [addS, getD_range (by omega)]; exact FB.mod⟩
theorem sclS_ok {w : Nat} {a : List Int} {k : Int} (ha : a.length = w) : VecOk w (sclS a k) :=
  ⟨by simp [sclS, ha], fun i hi => by rw [sclS, getD_range (by omega)]; exact FB.mod⟩
theorem addS_f {w : Nat} {a b : List Int} {k : Int} (ha : a.length = w) {c : Nat} (hc : c < w) : vf (addS a b k) c = vf a c + q k * vf b c := by
  unfold vf
  rw [addS, getD_range (by omega), q_mod, q_add, q_mul]
theorem sclS_f {w : Nat} {a : List Int} {k : Int} (ha : a.length = w) {c : Nat} (hc : c < w) : vf (sclS a k) c = q k * vf a c := by
  unfold vf
  rw [sclS, getD_range (by omega), q_mod, q_mul]
theorem addS_zero {w : Nat} {a b : List Int} {k : Int} (ha : VecOk w a) (hk : k % 1019 = 0) : addS a b k = a := by
  refine vec_ext (addS_ok ha.1) ha fun c hc => ?_
  rw [addS_f ha.1 hc, q_eq (y := 0) (by omega), q_zero]
  grind
theorem sclS_add {w : Nat} {a : List Int} {k : Int} (ha : a.length = w) : addS (List.replicate w 0) a k = sclS a k := by
  refine vec_ext (addS_ok (by simp)) (sclS_ok ha) fun c hc => ?_
  rw [addS_f (by simp) hc, sclS_f ha hc]
  have : vf (List.replicate w 0) c = 0 := by
    unfold vf
    rw [List.getD_eq_getElem?_getD, List.getElem?_replicate, if_pos hc]; rfl
  rw [this]
  grind
def lead : List Int → Nat
  | [] => 0
  | a :: l => if a ≠ 0 then 0 else lead l + 1
theorem lead_le : ∀ (l : List Int), lead l ≤ l.length
  | [] => Nat.le_refl _
  | a :: l => by
    unfold lead
    split
    · omega
    · have := lead_le l; simp; omega
theorem lead_lt : ∀ (l : List Int) (c : Nat), c < lead l → l.getD c 0 = 0
  | [], c, h => absurd h (Nat.not_lt_zero _)
  | a :: l, c, h => by
    unfold lead at h
    split at h
    · omega
    · rename_i ha
      have ha : a = 0 := Classical.byContradiction ha
      cases c with
      | zero => exact ha
      | succ c => simpa using lead_lt l c (by omega)
theorem lead_ne : ∀ (l : List Int), lead l < l.length → l.getD (lead l) 0 ≠ 0
  | [], h => absurd h (Nat.not_lt_zero _)
  | a :: l, h => by
    unfold lead at h ⊢
    by_cases ha : a ≠ 0
    · rw [if_pos ha]; simpa using ha
    · rw [if_neg ha] at h ⊢
      have := lead_ne l (by simp at h; omega)
      simpa using this
theorem lead_eq {l : List Int} {c : Nat} (hc : c < l.length) (h0 : ∀ d, d < c → l.getD d 0 = 0) (h1 : l.getD c 0 ≠ 0) : lead l = c := by
  have a : ¬ lead l < c := fun hlt => lead_ne l (by omega) (h0 _ hlt)
  have b : ¬ c < lead l := fun hlt => h1 (lead_lt l c hlt)
  omega
def invI (x : Int) : Int := x ^ (1017 : Nat) % 1019
theorem inv_all : (List.range 1019).all (fun a => a == 0 || (a ^ 254 % 1019) ^ 4 * a ^ 2 % 1019 == 1) = true := by decide +kernel
theorem pow_split (a : Nat) {m x y z : Nat} (e : m + 1 = x * y + z) : a ^ m * a % 1019 = (a ^ x % 1019) ^ y * a ^ z % 1019 := by
  rw [Nat.mul_mod ((a ^ x % 1019) ^ y), ← Nat.pow_mod, ← Nat.mul_mod, ← Nat.pow_mul, ← Nat.pow_add, ← Nat.pow_succ]
  rw [show m.succ = x * y + z from e]
theorem invI_mul {x : Int} (hx : FB x) (h : x ≠ 0) : q (invI x) * q x = 1 := by
  obtain ⟨h0, h1⟩ := hx
  obtain ⟨n, rfl⟩ := Int.eq_ofNat_of_zero_le h0
  have hn := List.all_eq_true.1 inv_all n (by simp; omega)
  have hn0 : ¬ n = 0 := fun e => h (by simp [e])
  simp [hn0] at hn
  unfold invI
  rw [← pow_split n (m := 1017) rfl] at hn
  rw [q_mod, ← q_mul, show ((n : Int) ^ (1017 : Nat) * n) = ((n ^ 1017 * n : Nat) : Int) by simp]
  generalize n ^ 1017 * n = y at *
  exact (q_eq (y := 1) (by omega)).trans q_one
def mf (R : List (List Int)) : Nat → Nat → Fq := fun i => vf (R.getD i [])
def lds (R : List (List Int)) : Nat → Nat := fun i => lead (R.getD i [])
structure RedL (w : Nat) (R : List (List Int)) : Prop where
  ok : ∀ i, i < R.length → VecOk w (R.getD i [])
  red : Red w R.length (mf R) (lds R)
theorem red_lead {w r : Nat} {R : List (List Int)} {piv : Nat → Nat} (ho : ∀ i, i < r → VecOk w (R.getD i [])) (h : Red w r (mf R) piv) {i : Nat} (hi : i < r) : lead (R.getD i []) = piv i := by
  have hw := ho i hi
  refine lead_eq (by rw [hw.1]; exact h.lt i hi) (fun d hd => ?_) (fun e => ?_)
  · have := h.lead i d hi hd
    exact q_inj' (hw.2 d (by have := h.lt i hi; omega)) ⟨by omega, by omega⟩ (this.trans q_zero.symm)
  · have := h.one i hi
    unfold mf vf at this
    rw [e] at this
    exact absurd this (by decide)
theorem Red.congr {w r : Nat} {M M' : Nat → Nat → Fq} {piv piv' : Nat → Nat} (h : Red w r M piv) (hM : ∀ i c, i < r → c < w → M' i c = M i c) (hp : ∀ i, i < r → piv' i = piv i) : Red w r M' piv' := by
  refine ⟨fun j hj => by rw [hp j hj]; exact h.lt j hj, fun i j hij hj => by rw [hp i (by omega), hp j hj]; exact h.inc i j hij hj, fun j hj => by rw [hp j hj, hM _ _ hj (h.lt j hj)]; exact h.one j hj, fun i j hi hj hn => by rw [hp j hj, hM _ _ hi (h.lt j hj)]; exact h.oth i j hi hj hn, fun i c hi hc => ?_⟩
  rw [hp i hi] at hc
  rw [hM _ _ hi (by have := h.lt i hi; omega)]
  exact h.lead i c hi hc
theorem RedL.of {w : Nat} {R : List (List Int)} {piv : Nat → Nat} (ho : ∀ i, i < R.length → VecOk w (R.getD i [])) (h : Red w R.length (mf R) piv) : RedL w R :=
  ⟨ho, h.congr (fun _ _ _ _ => rfl) (fun _ hi => red_lead ho h hi)⟩
theorem RedL.unique {w : Nat} {R R' : List (List Int)} (h : RedL w R) (h' : RedL w R') (hs : ∀ x, Sp w R.length (mf R) x ↔ Sp w R'.length (mf R') x) : R = R' := by
  obtain ⟨e, he⟩ := h.red.unique h'.red (fun x => (hs x).1) (fun x => (hs x).2)
  refine List.ext_getElem e fun i h1 h2 => ?_
  have := vec_ext (h.ok i h1) (h'.ok i h2) (he i h1)
  rw [List.getD_eq_getElem?_getD, List.getD_eq_getElem?_getD, List.getElem?_eq_getElem h1, List.getElem?_eq_getElem h2] at this
  exact this
theorem RedL.nil {w : Nat} : RedL w [] := ⟨fun i hi => absurd hi (Nat.not_lt_zero _), by refine ⟨?_, ?_, ?_, ?_, ?_⟩ <;> intros <;> (simp only [List.length_nil] at *; omega)⟩
def redV (R : List (List Int)) (v : List Int) : Nat → List Int
  | 0 => v
  | i + 1 => addS (redV R v i) (R.getD i []) ((1019 - (redV R v i).getD (lead (R.getD i [])) 0) % 1019)
theorem redV_ok {w : Nat} {R : List (List Int)} {v : List Int} (hv : VecOk w v) : ∀ i, VecOk w (redV R v i)
  | 0 => hv
  | i + 1 => addS_ok (redV_ok hv i).1
theorem redV_f {w : Nat} {R : List (List Int)} {v : List Int} (hv : VecOk w v) (h : RedL w R) : ∀ i, i ≤ R.length → ∀ c, c < w → vf (redV R v i) c = redM (mf R) (lds R) (vf v) i c
  | 0, _, _, _ => rfl
  | i + 1, hi, c, hc => by
    have ih := redV_f hv h i (by omega)
    have hp := h.red.lt i (by omega)
    show vf (addS _ _ _) c = redM (mf R) (lds R) (vf v) i c - redM (mf R) (lds R) (vf v) i (lds R i) * mf R i c
    rw [addS_f (redV_ok hv i).1 hc, q_mod, q_neg, ← ih c hc, ← ih _ hp]
    unfold mf lds vf
    grind
def insR (R : List (List Int)) (e : List Int) (qx i : Nat) : List Int := addS (R.getD i []) e ((1019 - (R.getD i []).getD qx 0) % 1019)
def insA (R : List (List Int)) (e : List Int) (qx : Nat) : Nat → Nat
  | 0 => 0
  | i + 1 => if lead (insR R e qx i) < qx then i + 1 else insA R e qx i
def insW (R : List (List Int)) (e : List Int) (qx : Nat) : List (List Int) :=
  let S := (List.range R.length).map (insR R e qx)
  S.take (insA R e qx R.length) ++ [e] ++ S.drop (insA R e qx R.length)
def insE (u : List Int) : List Int := sclS u (invI (u.getD (lead u) 0))
def insL (R : List (List Int)) (v : List Int) : List (List Int) :=
  let u := redV R v R.length
  if lead u < u.length then insW R (insE u) (lead u) else R
theorem insW_len {R : List (List Int)} {e : List Int} {qx : Nat} : insA R e qx R.length ≤ R.length ∧ (insW R e qx).length = R.length + 1 := by
  have h : ∀ i, insA R e qx i ≤ i := fun i => by
    induction i with
    | zero => exact Nat.le_refl _
    | succ i ih => unfold insA; split <;> omega
  have := h R.length
  refine ⟨this, ?_⟩
  simp [insW]
  omega
theorem insW_at {R : List (List Int)} {e : List Int} {qx i : Nat} (hi : i < R.length + 1) : (insW R e qx).getD i [] = if i = insA R e qx R.length then e else if i < insA R e qx R.length then insR R e qx i else insR R e qx (i - 1) := by
  obtain ⟨h1, h2⟩ := insW_len (R := R) (e := e) (qx := qx)
  unfold insW
  generalize insA R e qx R.length = a at *
  rw [List.getD_eq_getElem?_getD, List.append_assoc]
  by_cases e1 : i < a
  · rw [List.getElem?_append_left (by simp; omega), if_neg (by omega), if_pos e1]
    simp [e1, show i < R.length by omega]
  · rw [List.getElem?_append_right (by simp; omega)]
    have hl : ((List.map (insR R e qx) (List.range R.length)).take a).length = a := by simp; omega
    rw [hl]
    by_cases e2 : i = a
    · rw [if_pos e2, e2, Nat.sub_self]; rfl
    · rw [if_neg e2, if_neg e1, List.getElem?_append_right (by simp; omega), List.getElem?_drop]
      simp [show a + (i - a - 1) = i - 1 by omega, show i - 1 < R.length by omega]
theorem Sp.congr {w n : Nat} {M M' : Nat → Nat → Fq} (h : ∀ i c, i < n → c < w → M' i c = M i c) {x : Nat → Fq} : Sp w n M' x ↔ Sp w n M x := by
  constructor
  · exact fun hx => hx.of fun i hi => .row i hi (fun c hc => h i c hi hc)
  · exact fun hx => hx.of fun i hi => .row i hi (fun c hc => (h i c hi hc).symm)
theorem Sp.ext {w n : Nat} {M : Nat → Nat → Fq} {x y : Nat → Fq} (hx : Sp w n M x) (h : ∀ c, c < w → y c = x c) : Sp w n M y :=
  hx.scale 1 (fun c hc => by rw [h c hc]; grind)
theorem mf_app {R : List (List Int)} {v : List Int} {i : Nat} (hi : i < R.length) : mf (R ++ [v]) i = mf R i := by
  unfold mf
  rw [List.getD_eq_getElem?_getD, List.getElem?_append_left hi, ← List.getD_eq_getElem?_getD]
theorem mf_last {R : List (List Int)} {v : List Int} : mf (R ++ [v]) R.length = vf v := by
  unfold mf
  simp [List.getD_eq_getElem?_getD]
structure InsOk (w : Nat) (R : List (List Int)) (v u : List Int) : Prop where
  ok : VecOk w u
  piv : ∀ j, j < R.length → vf u (lds R j) = 0
  sp : ∀ {n : Nat} {N : Nat → Nat → Fq}, (∀ i, i < R.length → Sp w n N (mf R i)) → (Sp w n N (vf u) ↔ Sp w n N (vf v))
theorem redV_ins {w : Nat} {R : List (List Int)} {v : List Int} (h : RedL w R) (hv : VecOk w v) : InsOk w R v (redV R v R.length) := by
  have hf := redV_f hv h R.length (Nat.le_refl _)
  refine ⟨redV_ok hv _, fun j hj => ?_, fun hN => ⟨fun hs => ?_, fun hs => ?_⟩⟩
  · rw [hf _ (h.red.lt j hj), h.red.red_at _ (Nat.le_refl _) j hj, if_pos hj]
  · exact red_sp' hN R.length (Nat.le_refl _) (hs.ext fun c hc => (hf c hc).symm)
  · exact (red_sp hN hs R.length (Nat.le_refl _)).ext hf
theorem not_full {w : Nat} {u : List Int} (hu : VecOk w u) (h : lead u < u.length) : vf u (lead u) ≠ 0 := q_ne (hu.2 _ (by have := hu.1; omega)) (lead_ne u h)
theorem insE_f {w : Nat} {u : List Int} (hu : u.length = w) {c : Nat} (hc : c < w) : vf (insE u) c = q (invI (u.getD (lead u) 0)) * vf u c := sclS_f hu hc
theorem insR_f {w : Nat} {R : List (List Int)} {e : List Int} {qx i : Nat} (h : VecOk w (R.getD i [])) {c : Nat} (hc : c < w) : vf (insR R e qx i) c = mf R i c - mf R i qx * vf e c := by
  unfold insR
  rw [addS_f h.1 hc, q_mod, q_neg]
  unfold mf vf
  grind
theorem insA_at {w : Nat} {R : List (List Int)} {v u : List Int} (h : RedL w R) (hu : InsOk w R v u) (hl : lead u < u.length) : ∀ i, i ≤ R.length → insA R (insE u) (lead u) i ≤ i ∧ (∀ j, j < insA R (insE u) (lead u) i → lds R j < lead u) ∧ ∀ j, insA R (insE u) (lead u) i ≤ j → j < i → lead u < lds R j
  | 0, _ => ⟨Nat.le_refl _, fun j hj => absurd hj (Nat.not_lt_zero _), fun j _ hj => absurd hj (Nat.not_lt_zero _)⟩
  | i + 1, hi => by
    obtain ⟨h1, h2, h3⟩ := insA_at h hu hl i (by omega)
    have hlw : lead u < w := by have := hu.ok.1; omega
    have ho := h.ok i (by omega)
    have hp := h.red.lt i (by omega)
    have hne : lds R i ≠ lead u := fun e => not_full hu.ok hl (e ▸ hu.piv i (by omega))
    have key : lead (insR R (insE u) (lead u) i) < lead u ↔ lds R i < lead u := by
      have hr : VecOk w (insR R (insE u) (lead u) i) := addS_ok ho.1
      have hlow : ∀ c, c < lead u → vf (insR R (insE u) (lead u) i) c = mf R i c := fun c hc => by
        rw [insR_f ho (by omega), insE_f hu.ok.1 (by omega)]
        have : vf u c = 0 := by unfold vf; rw [lead_lt u c hc, q_zero]
        rw [this]; grind
      by_cases hlt : lds R i < lead u
      · have e : lead (insR R (insE u) (lead u) i) = lds R i := by
          refine lead_eq (by rw [hr.1]; exact hp) (fun d hd => ?_) (fun e => ?_)
          · have := hlow d (by omega)
            rw [h.red.lead i d (by omega) hd] at this
            exact q_inj' (hr.2 d (by omega)) ⟨by omega, by omega⟩ (this.trans q_zero.symm)
          · have := hlow (lds R i) hlt
            rw [h.red.one i (by omega)] at this
            unfold vf at this
            rw [e] at this
            exact absurd this (by decide)
        rw [e]
      · refine ⟨fun hc => absurd ?_ (lead_ne _ (show lead (insR R (insE u) (lead u) i) < (insR R (insE u) (lead u) i).length by rw [hr.1]; omega)), fun hc => absurd hc hlt⟩
        have := hlow _ hc
        rw [h.red.lead i _ (by omega) (by omega)] at this
        exact q_inj' (hr.2 _ (by omega)) ⟨by omega, by omega⟩ (this.trans q_zero.symm)
    unfold insA
    by_cases hlt : lds R i < lead u
    · rw [if_pos (key.2 hlt)]
      refine ⟨Nat.le_refl _, fun j hj => ?_, fun j h4 h5 => by omega⟩
      by_cases e : j = i
      · rw [e]; exact hlt
      · have := h.red.inc j i (by omega) (by omega); omega
    · rw [if_neg (fun hc => hlt (key.1 hc))]
      refine ⟨by omega, h2, fun j h4 h5 => ?_⟩
      by_cases e : j = i
      · rw [e]; omega
      · exact h3 j h4 (by omega)
theorem insW_ok {w : Nat} {R : List (List Int)} {v u : List Int} (h : RedL w R) (hu : InsOk w R v u) (hl : lead u < u.length) : RedL w (insW R (insE u) (lead u)) ∧ ∀ x, Sp w (R.length + 1) (mf (insW R (insE u) (lead u))) x ↔ Sp w (R ++ [v]).length (mf (R ++ [v])) x := by
  obtain ⟨a1, a2, a3⟩ := insA_at h hu hl R.length (Nat.le_refl _)
  obtain ⟨-, l2⟩ := insW_len (R := R) (e := insE u) (qx := lead u)
  have hlw : lead u < w := by have := hu.ok.1; omega
  have hs : q (invI (u.getD (lead u) 0)) * vf u (lead u) = 1 := invI_mul (hu.ok.2 _ hlw) (lead_ne u hl)
  have hat : ∀ i, i < R.length + 1 → (insW R (insE u) (lead u)).getD i [] = _ := fun i hi => insW_at hi
  generalize hA : insA R (insE u) (lead u) R.length = a at *
  have ho : ∀ i, i < R.length + 1 → VecOk w ((insW R (insE u) (lead u)).getD i []) := fun i hi => by
    rw [hat i hi]
    split
    · exact sclS_ok hu.ok.1
    · split
      · exact addS_ok (h.ok i (by omega)).1
      · exact addS_ok (h.ok (i - 1) (by omega)).1
  have hf : ∀ i c, i < R.length + 1 → c < w → mf (insW R (insE u) (lead u)) i c = insM (mf R) (vf u) (lead u) a (q (invI (u.getD (lead u) 0))) i c := fun i c hi hc => by
    show vf ((insW R (insE u) (lead u)).getD i []) c = _
    rw [hat i hi]
    unfold insM
    split
    · exact insE_f hu.ok.1 hc
    · split
      · rw [insR_f (h.ok i (by omega)) hc, insE_f hu.ok.1 hc]
      · rw [insR_f (h.ok (i - 1) (by omega)) hc, insE_f hu.ok.1 hc]
  have hz : ∀ c, c < lead u → vf u c = 0 := fun c hc => by unfold vf; rw [lead_lt u c hc, q_zero]
  have hr := h.red.ins (s := q (invI (u.getD (lead u) 0))) hu.piv hlw hz hs a1 a2 a3
  refine ⟨RedL.of (by rw [l2]; exact ho) (by rw [l2]; exact hr.congr hf (fun _ _ => rfl)), fun x => ?_⟩
  rw [Sp.congr hf]
  have hrows : ∀ i, i < R.length → Sp w (R ++ [v]).length (mf (R ++ [v])) (mf R i) := fun i hi => by
    rw [← mf_app (v := v) hi]
    exact .row i (by simp; omega) (fun _ _ => rfl)
  have hv : Sp w (R ++ [v]).length (mf (R ++ [v])) (vf v) := by
    rw [← mf_last (R := R)]
    exact .row R.length (by simp) (fun _ _ => rfl)
  constructor
  · exact fun hx => ins_sp hrows ((hu.sp hrows).2 hv) a1 hx
  · obtain ⟨i1, i2⟩ := ins_sp' (w := w) (M := mf R) hs a1
    have i3 := (hu.sp i2).1 i1
    refine fun hx => hx.of fun i hi => ?_
    by_cases e : i < R.length
    · rw [mf_app e]; exact i2 i e
    · have e2 : i = R.length := by simp at hi; omega
      rw [e2, mf_last]; exact i3
def pivAt (rows : List (List Int)) (k : Nat) : Nat → Nat → Nat
  | 0, p => p
  | n + 1, p => if (rows.getD p []).getD k 0 ≠ 0 then p else pivAt rows k n (p + 1)
theorem pivAt_eq {rows : List (List Int)} {k p : Nat} : ∀ {n a : Nat}, a ≤ p → p ≤ a + n → (∀ i, a ≤ i → i < p → (rows.getD i []).getD k 0 = 0) → (p < a + n → (rows.getD p []).getD k 0 ≠ 0) → pivAt rows k n a = p
  | 0, a, h1, h2, _, _ => by show a = p; omega
  | n + 1, a, h1, h2, h3, h4 => by
    unfold pivAt
    by_cases e : a = p
    · subst e
      rw [if_pos (h4 (by omega))]
    · rw [if_neg (by rw [h3 a (Nat.le_refl _) (by omega)]; simp)]
      exact pivAt_eq (by omega) (by omega) (fun i hi hp => h3 i (by omega) hp) (fun hp => h4 (by omega))
theorem pivAt_spec {rows : List (List Int)} {k : Nat} : ∀ (n a : Nat), a ≤ pivAt rows k n a ∧ pivAt rows k n a ≤ a + n ∧ (∀ i, a ≤ i → i < pivAt rows k n a → (rows.getD i []).getD k 0 = 0) ∧ (pivAt rows k n a < a + n → (rows.getD (pivAt rows k n a) []).getD k 0 ≠ 0)
  | 0, a => ⟨Nat.le_refl _, Nat.le_refl _, fun i h1 h2 => by unfold pivAt at h2; omega, fun h => by unfold pivAt at h; omega⟩
  | n + 1, a => by
    unfold pivAt
    by_cases e : (rows.getD a []).getD k 0 ≠ 0
    · rw [if_pos e]
      exact ⟨Nat.le_refl _, by omega, fun i h1 h2 => by omega, fun _ => e⟩
    · rw [if_neg e]
      obtain ⟨h1, h2, h3, h4⟩ := pivAt_spec (rows := rows) (k := k) n (a + 1)
      refine ⟨by omega, by omega, fun i hi hp => ?_, fun hp => h4 (by omega)⟩
      by_cases e2 : i = a
      · rw [e2]; exact Classical.byContradiction e
      · exact h3 i (by omega) hp
def upE (rows : List (List Int)) (p k : Nat) : List Int := sclS (rows.getD p []) (invI ((rows.getD p []).getD k 0))
def upR (rows : List (List Int)) (a p k : Nat) : List (List Int) := (rows.set p (rows.getD a [])).set a (upE rows p k)
def offR (R : List (List Int)) (e : List Int) (a k i : Nat) : List Int :=
  if i ≠ a ∧ (R.getD i []).getD k 0 ≠ 0 then addS (R.getD i []) e (1019 - (R.getD i []).getD k 0) else R.getD i []
def stepL (rows : List (List Int)) (a p k : Nat) : List (List Int) := (List.range rows.length).map (offR (upR rows a p k) (upE rows p k) a k)
def elimS (s : List (List Int) × Nat) (k : Nat) : List (List Int) × Nat :=
  if s.2 < s.1.length ∧ pivAt s.1 k (s.1.length - s.2) s.2 < s.1.length then (stepL s.1 s.2 (pivAt s.1 k (s.1.length - s.2) s.2) k, s.2 + 1) else s
def elim (m : List (List Int)) : Nat → List (List Int) × Nat
  | 0 => (m, 0)
  | k + 1 => elimS (elim m k) k
def redL (m : List (List Int)) (w : Nat) : List (List Int) := (elim m w).1.take (elim m w).2
theorem set_at {R : List (List Int)} {e : List Int} {a i : Nat} (ha : a < R.length) : (R.set a e).getD i [] = if i = a then e else R.getD i [] := by
  rw [List.getD_eq_getElem?_getD, List.getElem?_set]
  by_cases h : a = i
  · subst h; simp [ha]
  · rw [if_neg h, if_neg (fun e => h e.symm), ← List.getD_eq_getElem?_getD]
theorem upR_at {rows : List (List Int)} {a p k i : Nat} (ha : a < rows.length) (hp : p < rows.length) : (upR rows a p k).getD i [] = if i = a then upE rows p k else if i = p then rows.getD a [] else rows.getD i [] := by
  unfold upR
  rw [set_at (by simp; exact ha), set_at hp]
theorem stepL_at {rows : List (List Int)} {a p k i : Nat} (hi : i < rows.length) : (stepL rows a p k).getD i [] = offR (upR rows a p k) (upE rows p k) a k i := by
  simp [stepL, List.getD_eq_getElem?_getD, hi]
theorem stepL_len {rows : List (List Int)} {a p k : Nat} : (stepL rows a p k).length = rows.length := by simp [stepL]
theorem stepL_ok {w : Nat} {rows : List (List Int)} {a p k : Nat} (ha : a < rows.length) (hp : p < rows.length) (ho : ∀ i, i < rows.length → VecOk w (rows.getD i [])) : ∀ i, i < rows.length → VecOk w ((stepL rows a p k).getD i []) := fun i hi => by
  have h1 : VecOk w ((upR rows a p k).getD i []) := by
    rw [upR_at ha hp]
    split
    · exact sclS_ok (ho p hp).1
    · split
      · exact ho a ha
      · exact ho i hi
  rw [stepL_at hi]
  unfold offR
  split
  · exact addS_ok h1.1
  · exact h1
theorem stepL_f {w : Nat} {rows : List (List Int)} {a p k : Nat} (ha : a < rows.length) (hp : p < rows.length) (hk : k < w) (ho : ∀ i, i < rows.length → VecOk w (rows.getD i [])) : ∀ i c, i < rows.length → c < w → mf (stepL rows a p k) i c = stepM (mf rows) a p k (q (invI ((rows.getD p []).getD k 0))) i c := fun i c hi hc => by
  have he : ∀ c, c < w → vf (upE rows p k) c = q (invI ((rows.getD p []).getD k 0)) * mf rows p c := fun c hc => sclS_f (ho p hp).1 hc
  show vf ((stepL rows a p k).getD i []) c = _
  rw [stepL_at hi]
  unfold offR stepM
  rw [upR_at ha hp]
  by_cases e1 : i = a
  · rw [if_neg (fun h => h.1 e1), if_pos e1, if_pos e1]
    exact he c hc
  · rw [if_neg e1, if_neg e1]
    have hb : VecOk w (if i = p then rows.getD a [] else rows.getD i []) := by
      split
      · exact ho a ha
      · exact ho i hi
    have hbf : ∀ c, vf (if i = p then rows.getD a [] else rows.getD i []) c = (if i = p then mf rows a c else mf rows i c) := fun c => by split <;> rfl
    rw [← hbf c, ← hbf k]
    generalize (if i = p then rows.getD a [] else rows.getD i []) = b at hb
    by_cases e2 : b.getD k 0 ≠ 0
    · rw [if_pos ⟨e1, e2⟩, addS_f hb.1 hc, q_neg, he c hc]
      unfold vf
      grind
    · rw [if_neg (fun h => e2 h.2)]
      have : vf b k = 0 := by
        unfold vf
        rw [show b.getD k 0 = 0 from Classical.byContradiction e2, q_zero]
      rw [this]; grind
structure ElimOk (w : Nat) (m : List (List Int)) (k : Nat) (s : List (List Int) × Nat) (piv : Nat → Nat) : Prop where
  len : s.1.length = m.length
  ok : ∀ i, i < m.length → VecOk w (s.1.getD i [])
  ech : Ech w m.length (mf s.1) s.2 k piv
  sp : ∀ x, Sp w m.length (mf s.1) x ↔ Sp w m.length (mf m) x
theorem Ech.congr {w n a k : Nat} {M M' : Nat → Nat → Fq} {piv : Nat → Nat} (h : Ech w n M a k piv) (hk : k ≤ w) (hM : ∀ i c, i < n → c < w → M' i c = M i c) : Ech w n M' a k piv := by
  have hle := h.le
  refine ⟨h.le, h.lt, h.inc, fun j hj => ?_, fun i j hi hj hn => ?_, fun i c hi hc => ?_, fun i c h1 h2 h3 => ?_⟩
  · rw [hM _ _ (by omega) (by have := h.lt j hj; omega)]; exact h.one j hj
  · rw [hM _ _ (by omega) (by have := h.lt j hj; omega)]; exact h.oth i j hi hj hn
  · rw [hM _ _ (by omega) (by have := h.lt i hi; omega)]; exact h.lead i c hi hc
  · rw [hM _ _ h2 (by omega)]; exact h.low i c h1 h2 h3
theorem elim_ok {w : Nat} {m : List (List Int)} (ho : ∀ i, i < m.length → VecOk w (m.getD i [])) : ∀ k, k ≤ w → (∃ piv, ElimOk w m k (elim m k) piv) ∨ ((elim m k).2 = m.length ∧ ∃ k', k' ≤ k ∧ ∃ piv, ElimOk w m k' (elim m k) piv)
  | 0, _ => .inl ⟨fun _ => 0, rfl, ho, .zero, fun x => Iff.rfl⟩
  | k + 1, hk => by
    have ih := elim_ok ho k (by omega)
    show (∃ piv, ElimOk w m (k + 1) (elimS (elim m k) k) piv) ∨ ((elimS (elim m k) k).2 = m.length ∧ ∃ k', k' ≤ k + 1 ∧ ∃ piv, ElimOk w m k' (elimS (elim m k) k) piv)
    generalize elim m k = s at ih
    rcases ih with ⟨piv, h⟩ | ⟨hf, k', hk', piv, h⟩
    · have hl := h.len
      obtain ⟨p1, p2, p3, p4⟩ := pivAt_spec (rows := s.1) (k := k) (s.1.length - s.2) s.2
      have hle := h.ech.le
      unfold elimS
      generalize pivAt s.1 k (s.1.length - s.2) s.2 = p at *
      by_cases e1 : s.2 < s.1.length
      · by_cases e2 : p < s.1.length
        · rw [if_pos ⟨e1, e2⟩]
          have hs : q (invI ((s.1.getD p []).getD k 0)) * mf s.1 p k = 1 := invI_mul ((h.ok p (by omega)).2 k (by omega)) (p4 (by omega))
          have hok : ∀ i, i < s.1.length → VecOk w (s.1.getD i []) := by rw [hl]; exact h.ok
          have hf := stepL_f e1 e2 (show k < w by omega) hok
          rw [hl] at hf
          refine .inl ⟨_, by rw [stepL_len, hl], ?_, (h.ech.step p1 (by omega) hs).congr hk hf, fun x => ?_⟩
          · rw [← hl]; exact stepL_ok e1 e2 hok
          · rw [Sp.congr hf, ← h.sp x]
            exact ⟨step_sp (by omega) (by omega), step_sp' (by omega) (by omega) hs⟩
        · rw [if_neg (fun hc => e2 hc.2)]
          refine .inl ⟨piv, hl, h.ok, h.ech.skip fun i h1 h2 => ?_, h.sp⟩
          unfold mf vf
          rw [p3 i h1 (by omega), q_zero]
      · rw [if_neg (fun hc => e1 hc.1)]
        exact .inr ⟨by omega, k, by omega, piv, h⟩
    · have hl := h.len
      unfold elimS
      rw [if_neg (fun hc => by omega)]
      exact .inr ⟨hf, k', by omega, piv, h⟩
theorem redL_ok {w : Nat} {m : List (List Int)} (ho : ∀ i, i < m.length → VecOk w (m.getD i [])) : RedL w (redL m w) ∧ ∀ x, Sp w (redL m w).length (mf (redL m w)) x ↔ Sp w m.length (mf m) x := by
  have key : ∃ k', k' ≤ w ∧ (w ≤ k' ∨ m.length ≤ (elim m w).2) ∧ ∃ piv, ElimOk w m k' (elim m w) piv := by
    rcases elim_ok ho w (Nat.le_refl _) with ⟨piv, h⟩ | ⟨h1, k', h2, piv, h3⟩
    · exact ⟨w, Nat.le_refl _, .inl (Nat.le_refl _), piv, h⟩
    · exact ⟨k', h2, .inr (by omega), piv, h3⟩
  obtain ⟨k', h1, h2, piv, h3⟩ := key
  unfold redL
  generalize elim m w = s at *
  have hle := h3.ech.le
  have hl := h3.len
  have e : (s.1.take s.2).length = s.2 := by simp; omega
  have hat : ∀ i, i < s.2 → (s.1.take s.2).getD i [] = s.1.getD i [] := fun i hi => by simp [List.getD_eq_getElem?_getD, hi]
  have hm : ∀ i c, i < s.2 → c < w → mf (s.1.take s.2) i c = mf s.1 i c := fun i c hi _ => by unfold mf; rw [hat i hi]
  refine ⟨RedL.of (by rw [e]; exact fun i hi => by rw [hat i hi]; exact h3.ok i (by omega)) (by rw [e]; exact (h3.ech.red h1).congr hm (fun _ _ => rfl)), fun x => ?_⟩
  rw [e, Sp.congr hm, h3.ech.sp h2, h3.sp]
theorem app_ok {w : Nat} {R : List (List Int)} {v : List Int} (h : RedL w R) (hv : VecOk w v) : ∀ i, i < (R ++ [v]).length → VecOk w ((R ++ [v]).getD i []) := fun i hi => by
  rw [List.getD_eq_getElem?_getD]
  by_cases e : i < R.length
  · rw [List.getElem?_append_left e, ← List.getD_eq_getElem?_getD]; exact h.ok i e
  · have e2 : i = R.length := by simp at hi; omega
    subst e2
    simpa using hv
theorem redL_id {w : Nat} {R : List (List Int)} (h : RedL w R) : redL R w = R :=
  have h1 := redL_ok h.ok
  h1.1.unique h h1.2
theorem redL_ins {w : Nat} {R : List (List Int)} {v : List Int} (h : RedL w R) (hv : VecOk w v) (hn : lead (redV R v R.length) < (redV R v R.length).length) : redL (R ++ [v]) w = insL R v := by
  have h1 := redL_ok (app_ok h hv)
  have h2 := insW_ok h (redV_ins h hv) hn
  have e : insL R v = insW R (insE (redV R v R.length)) (lead (redV R v R.length)) := if_pos hn
  rw [e]
  refine h1.1.unique h2.1 fun x => ?_
  rw [h1.2 x, (insW_len (R := R)).2]
  exact (h2.2 x).symm
theorem insL_red {w : Nat} {R : List (List Int)} {v : List Int} (h : RedL w R) (hv : VecOk w v) : RedL w (insL R v) := by
  by_cases hn : lead (redV R v R.length) < (redV R v R.length).length
  · have e : insL R v = insW R (insE (redV R v R.length)) (lead (redV R v R.length)) := if_pos hn
    rw [e]
    exact (insW_ok h (redV_ins h hv) hn).1
  · have e : insL R v = R := if_neg hn
    rw [e]; exact h
end LA
end Go.Proofs.YtbepgedckfhifaaGreat
