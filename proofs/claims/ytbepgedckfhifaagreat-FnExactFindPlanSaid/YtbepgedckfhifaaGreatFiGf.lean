/-
  What is reached; orders of nodes, in plain words.
-/
import Derived.Test.YtbepgedckfhifaaGreatFiFl
import Derived.Test.YtbepgedckfhifaaGreatFiFm
namespace Go.Proofs.YtbepgedckfhifaaGreat
set_option linter.unusedVariables false
set_option linter.unusedSimpArgs false
abbrev eAtT (g : Gr) (k : Nat) : Edg := g.2.1.getD k default
/-! ### what is reached -/
abbrev sAt (s : List Bool) (a : Int) : Bool := s.getD a.toNat false
def rstep (g : Gr) (s : List Bool) (i : Nat) : List Bool := if sAt s (eAtT g i).1 = true then s.set (eAtT g i).2.1.toNat true else s
def rpass (g : Gr) (s : List Bool) : Nat → List Bool
  | 0 => s
  | n + 1 => rstep g (rpass g s n) n
def rr (g : Gr) (s : List Bool) : Nat → List Bool
  | 0 => s
  | n + 1 => rpass g (rr g s n) g.2.1.length
def rstart (n : Nat) (l : List Int) : Nat → List Bool
  | 0 => List.replicate n false
  | k + 1 => (rstart n l k).set (l.getD k 0).toNat true
def reachL (g : Gr) (l : List Int) : List Bool := rr g (rstart g.1.toNat l l.length) g.1.toNat
theorem bset_ne {xs : List Bool} {i j : Nat} {v : Bool} (h : i ≠ j) : (xs.set i v).getD j false = xs.getD j false := by simp [List.getD_eq_getElem?_getD, List.getElem?_set_ne h]
theorem bset_eq {xs : List Bool} {i : Nat} {v : Bool} (h : i < xs.length) : (xs.set i v).getD i false = v := by simp [List.getD_eq_getElem?_getD, h]
theorem bset_mono {xs : List Bool} {i j : Nat} (h : xs.getD j false = true) : (xs.set i true).getD j false = true := by
  have hj : j < xs.length := by
    rcases Nat.lt_or_ge j xs.length with h1 | h1
    · exact h1
    · rw [List.getD_eq_getElem?_getD, List.getElem?_eq_none h1] at h; cases h
  by_cases e : i = j
  · subst e; exact bset_eq hj
  · rw [bset_ne e]; exact h
theorem rstart_len {n : Nat} {l : List Int} : ∀ {k : Nat}, (rstart n l k).length = n := by
  intro k
  induction k with
  | zero => simp [rstart]
  | succ k ih => unfold rstart; rw [List.length_set, ih]
theorem rstep_len {g : Gr} {s : List Bool} {i : Nat} : (rstep g s i).length = s.length := by unfold rstep; split <;> simp
theorem rpass_len {g : Gr} {s : List Bool} : ∀ {n : Nat}, (rpass g s n).length = s.length := by
  intro n
  induction n with
  | zero => rfl
  | succ n ih => unfold rpass; rw [rstep_len, ih]
theorem rr_len {g : Gr} {s : List Bool} : ∀ {n : Nat}, (rr g s n).length = s.length := by
  intro n
  induction n with
  | zero => rfl
  | succ n ih => unfold rr; rw [rpass_len, ih]
theorem rstep_sound {g : Gr} {s : List Bool} {i : Nat} {P : Nat → Prop} (hP : ∀ k, k < g.2.1.length → P (eAtT g k).1.toNat → P (eAtT g k).2.1.toNat) (h : ∀ b : Nat, s.getD b false = true → P b) (hi : i < g.2.1.length) : ∀ b : Nat, (rstep g s i).getD b false = true → P b := by
  intro b hb
  unfold rstep at hb
  split at hb
  · rename_i h1
    by_cases e : (eAtT g i).2.1.toNat = b
    · subst e; exact hP i hi (h _ h1)
    · rw [bset_ne e] at hb; exact h b hb
  · exact h b hb
theorem rpass_sound {g : Gr} {s : List Bool} {P : Nat → Prop} (hP : ∀ k, k < g.2.1.length → P (eAtT g k).1.toNat → P (eAtT g k).2.1.toNat) (h : ∀ b : Nat, s.getD b false = true → P b) : ∀ {n : Nat}, n ≤ g.2.1.length → ∀ b : Nat, (rpass g s n).getD b false = true → P b := by
  intro n
  induction n with
  | zero => intro _; exact h
  | succ n ih => intro hn; exact rstep_sound hP (ih (by omega)) (by omega)
theorem rr_sound {g : Gr} {s : List Bool} {P : Nat → Prop} (hP : ∀ k, k < g.2.1.length → P (eAtT g k).1.toNat → P (eAtT g k).2.1.toNat) (h : ∀ b : Nat, s.getD b false = true → P b) : ∀ {n : Nat}, ∀ b : Nat, (rr g s n).getD b false = true → P b := by
  intro n
  induction n with
  | zero => exact h
  | succ n ih => exact rpass_sound hP ih (Nat.le_refl _)
theorem rstart_sound {n : Nat} {l : List Int} {P : Nat → Prop} (h : ∀ k, k < l.length → P (l.getD k 0).toNat) : ∀ {k : Nat}, k ≤ l.length → ∀ b : Nat, (rstart n l k).getD b false = true → P b := by
  intro k
  induction k with
  | zero =>
    intro _ b hb
    exfalso
    unfold rstart at hb
    by_cases hbn : b < n
    · simp [List.getD_eq_getElem?_getD, hbn] at hb
    · rw [List.getD_eq_getElem?_getD, List.getElem?_eq_none (by simp; omega)] at hb; cases hb
  | succ k ih =>
    intro hk b hb
    unfold rstart at hb
    by_cases e : (l.getD k 0).toNat = b
    · subst e; exact h k (by omega)
    · rw [bset_ne e] at hb; exact ih (by omega) b hb
theorem reach_sound {g : Gr} {l : List Int} {P : Nat → Prop} (hP : ∀ k, k < g.2.1.length → P (eAtT g k).1.toNat → P (eAtT g k).2.1.toNat) (h : ∀ k, k < l.length → P (l.getD k 0).toNat) : ∀ b : Nat, (reachL g l).getD b false = true → P b :=
  rr_sound hP (rstart_sound h (Nat.le_refl _))
theorem rstep_mono {g : Gr} {s : List Bool} {i b : Nat} (h : s.getD b false = true) : (rstep g s i).getD b false = true := by
  unfold rstep
  split
  · exact bset_mono h
  · exact h
theorem rpass_mono {g : Gr} {s : List Bool} {b m : Nat} (h : (rpass g s m).getD b false = true) : ∀ {n : Nat}, m ≤ n → (rpass g s n).getD b false = true := by
  intro n hmn
  induction n with
  | zero => have : m = 0 := by omega
            subst this; exact h
  | succ n ih =>
    by_cases e : m = n + 1
    · subst e; exact h
    · exact rstep_mono (ih (by omega))
theorem rr_mono {g : Gr} {s : List Bool} {b : Nat} (h : s.getD b false = true) : ∀ {n : Nat}, (rr g s n).getD b false = true := by
  intro n
  induction n with
  | zero => exact h
  | succ n ih => exact rpass_mono (m := 0) ih (Nat.zero_le _)
theorem rstart_has {n : Nat} {l : List Int} (hl : ∀ k, k < l.length → 0 ≤ l.getD k 0 ∧ l.getD k 0 < n) {j : Nat} : ∀ {k : Nat}, j < k → k ≤ l.length → (rstart n l k).getD (l.getD j 0).toNat false = true := by
  intro k
  induction k with
  | zero => intro h; omega
  | succ k ih =>
    intro hj hk
    unfold rstart
    have h1 := hl k (by omega)
    by_cases e : j = k
    · subst e; exact bset_eq (by rw [rstart_len]; omega)
    · exact bset_mono (ih (by omega) (by omega))
def Closed1 (g : Gr) (s : List Bool) : Prop := ∀ k, k < g.2.1.length → sAt s (eAtT g k).1 = true → sAt s (eAtT g k).2.1 = true
theorem rstep_same {g : Gr} {s : List Bool} {i : Nat} (h : sAt s (eAtT g i).1 = true → sAt s (eAtT g i).2.1 = true) : rstep g s i = s := by
  unfold rstep
  split
  · rename_i h1
    have h2 := h h1
    apply List.ext_getElem?
    intro k
    rw [List.getElem?_set]
    by_cases e : (eAtT g i).2.1.toNat = k
    · subst e
      rw [if_pos rfl]
      have hk : (eAtT g i).2.1.toNat < s.length := by
        rcases Nat.lt_or_ge (eAtT g i).2.1.toNat s.length with h3 | h3
        · exact h3
        · have : s.getD (eAtT g i).2.1.toNat false = true := h2
          rw [List.getD_eq_getElem?_getD, List.getElem?_eq_none h3] at this; cases this
      rw [if_pos hk, List.getElem?_eq_getElem hk]
      have h2' : s.getD (eAtT g i).2.1.toNat false = true := h2
      rw [List.getD_eq_getElem?_getD, List.getElem?_eq_getElem hk] at h2'
      simpa using h2'.symm
    · rw [if_neg e]
  · rfl
theorem rpass_same {g : Gr} {s : List Bool} (h : Closed1 g s) : ∀ {n : Nat}, n ≤ g.2.1.length → rpass g s n = s := by
  intro n
  induction n with
  | zero => intro _; rfl
  | succ n ih => intro hn; unfold rpass; rw [ih (by omega)]; exact rstep_same (h n (by omega))
def trues (s : List Bool) : Nat := (List.range s.length).countP fun b => s.getD b false
theorem countP_ltT {p q : Nat → Bool} : ∀ {l : List Nat}, (∀ x ∈ l, p x = true → q x = true) → ∀ {y : Nat}, y ∈ l → q y = true → p y = false → l.countP p < l.countP q := by
  intro l
  induction l with
  | nil => intro _ y hy; cases hy
  | cons x l ih =>
    intro h y hy hq hp
    have hm : l.countP p ≤ l.countP q := List.countP_mono_left (fun z hz => h z (by simp [hz]))
    rw [List.countP_cons, List.countP_cons]
    rcases List.mem_cons.1 hy with rfl | hy
    · rw [hq, hp]; simp; omega
    · have := ih (fun z hz => h z (by simp [hz])) hy hq hp
      by_cases hx : p x = true
      · rw [hx, h x (by simp) hx]; simp; omega
      · have : p x = false := by simpa using hx
        rw [this]; simp; omega
theorem rr_or {g : Gr} {s : List Bool} (hv : ValidG g) (hs : s.length = g.1.toNat) : ∀ {n : Nat}, Closed1 g (rr g s n) ∨ n ≤ trues (rr g s n) := by
  intro n
  induction n with
  | zero => exact .inr (Nat.zero_le _)
  | succ n ih =>
    rcases ih with h | h
    · left
      show Closed1 g (rpass g (rr g s n) g.2.1.length)
      rw [rpass_same h (Nat.le_refl _)]; exact h
    · by_cases hc : Closed1 g (rr g s n)
      · left
        show Closed1 g (rpass g (rr g s n) g.2.1.length)
        rw [rpass_same hc (Nat.le_refl _)]; exact hc
      · right
        obtain ⟨k, hk⟩ := Classical.not_forall.1 hc
        obtain ⟨hk1, hk2⟩ := Classical.not_imp.1 hk
        obtain ⟨hk3, hk4⟩ := Classical.not_imp.1 hk2
        have he := hv.ends hk1
        have hl : (rr g s n).length = g.1.toNat := by rw [rr_len, hs]
        have hto : (eAtT g k).2.1.toNat < (rr g s n).length := by rw [hl]; unfold eAtT; omega
        have hgot : (rpass g (rr g s n) (k + 1)).getD (eAtT g k).2.1.toNat false = true := by
          show (rstep g (rpass g (rr g s n) k) k).getD _ false = true
          unfold rstep
          rw [if_pos (rpass_mono (m := 0) hk3 (Nat.zero_le _))]
          exact bset_eq (by rw [rpass_len]; exact hto)
        have hgot2 : (rpass g (rr g s n) g.2.1.length).getD (eAtT g k).2.1.toNat false = true := rpass_mono hgot (by omega)
        have hlt : trues (rr g s n) < trues (rpass g (rr g s n) g.2.1.length) := by
          unfold trues
          rw [rpass_len]
          exact countP_ltT (fun x _ hx => rpass_mono (m := 0) hx (Nat.zero_le _)) (y := (eAtT g k).2.1.toNat) (by simpa using hto) hgot2 (by simpa using hk4)
        show n + 1 ≤ trues (rpass g (rr g s n) g.2.1.length)
        omega
theorem trues_all {s : List Bool} (h : s.length ≤ trues s) {b : Nat} (hb : b < s.length) : s.getD b false = true := by
  refine Classical.byContradiction (fun hn => ?_)
  have h1 : (List.range s.length).countP (fun _ => true) = s.length := by simp
  have : trues s < (List.range s.length).countP (fun _ => true) := countP_ltT (fun _ _ _ => rfl) (y := b) (by simpa using hb) rfl (by simpa using hn)
  omega
theorem reachL_len {g : Gr} {l : List Int} : (reachL g l).length = g.1.toNat := by unfold reachL; rw [rr_len, rstart_len]
theorem reach_closed {g : Gr} {l : List Int} (hv : ValidG g) : Closed1 g (reachL g l) := by
  rcases rr_or hv (s := rstart g.1.toNat l l.length) rstart_len (n := g.1.toNat) with h | h
  · exact h
  · intro k hk _
    have he := hv.ends hk
    have hl : (reachL g l).length = g.1.toNat := reachL_len
    exact trues_all (by rw [hl]; exact h) (by rw [hl]; unfold eAtT; omega)
theorem reach_start {g : Gr} {l : List Int} (hl : ∀ k, k < l.length → 0 ≤ l.getD k 0 ∧ l.getD k 0 < g.1) {j : Nat} (hj : j < l.length) : (reachL g l).getD (l.getD j 0).toNat false = true :=
  rr_mono (rstart_has (fun k hk => by have := hl k hk; omega) hj (Nat.le_refl _))
/-! ### no way round -/
def toL (g : Gr) (a : Int) (i : Nat) : List Int := ((eFrom g a).take i).map fun k => (eAtT g k.toNat).2.1
def tos (g : Gr) (a : Int) : List Int := toL g a (eFrom g a).length
theorem toL_len {g : Gr} {a : Int} {i : Nat} (h : i ≤ (eFrom g a).length) : (toL g a i).length = i := by simp [toL]; omega
theorem toL_succ {g : Gr} {a : Int} {i : Nat} (h : i < (eFrom g a).length) : toL g a (i + 1) = toL g a i ++ [(eAtT g ((eFrom g a).getD i 0).toNat).2.1] := by
  unfold toL
  rw [List.take_add_one, List.getElem?_eq_getElem h, List.map_append, List.getD_eq_getElem?_getD (l := eFrom g a), List.getElem?_eq_getElem h]
  rfl
theorem tos_mem {g : Gr} {a x : Int} : x ∈ tos g a ↔ ∃ k, k < g.2.1.length ∧ (eAtT g k).1 = a ∧ (eAtT g k).2.1 = x := by
  unfold tos toL
  rw [List.take_length, List.mem_map]
  constructor
  · rintro ⟨y, hy, rfl⟩
    obtain ⟨k, h1, rfl, h2⟩ := idxs_mem.1 hy
    exact ⟨k, h1, of_decide_eq_true h2, rfl⟩
  · rintro ⟨k, h1, h2, h3⟩
    exact ⟨(k : Int), idxs_mem.2 ⟨k, h1, rfl, decide_eq_true h2⟩, h3⟩
theorem tos_rng {g : Gr} (hv : ValidG g) {a : Int} : ∀ k, k < (tos g a).length → 0 ≤ (tos g a).getD k 0 ∧ (tos g a).getD k 0 < g.1 := by
  intro k hk
  have hm : (tos g a).getD k 0 ∈ tos g a := by rw [List.getD_eq_getElem?_getD, List.getElem?_eq_getElem hk]; exact List.getElem_mem hk
  obtain ⟨j, h1, _, h3⟩ := tos_mem.1 hm
  have he := hv.ends h1
  rw [← h3]
  exact ⟨he.2.2.1, he.2.2.2.1⟩
def Acyc (g : Gr) : Prop := ∀ a : Nat, (a : Int) < g.1 → (reachL g (tos g a)).getD a false = false
/-! ### orders -/
def memI (xs : List Int) (x : Int) : Bool := xs.any fun y => decide (y = x)
theorem memI_iff {xs : List Int} {x : Int} : memI xs x = true ↔ x ∈ xs := by
  unfold memI
  rw [List.any_eq_true]
  exact ⟨fun ⟨y, hy, e⟩ => by rw [← of_decide_eq_true e]; exact hy, fun h => ⟨x, h, decide_eq_true rfl⟩⟩
def Rdy (g : Gr) (out : List Int) (a : Int) : Prop := a ∉ out ∧ ∀ k, k < g.2.1.length → (eAtT g k).2.1 = a → (eAtT g k).1 ∈ out
open Classical in
noncomputable def rdB (g : Gr) (out : List Int) (a : Int) : Bool := decide (Rdy g out a)
theorem rdB_iff {g : Gr} {out : List Int} {a : Int} : rdB g out a = true ↔ Rdy g out a := by simp [rdB]
noncomputable def nextN (g : Gr) (out : List Int) : Option Nat := (List.range g.1.toNat).find? fun a : Nat => rdB g out (a : Int)
noncomputable def topR (g : Gr) : Nat → List Int
  | 0 => []
  | n + 1 => match nextN g (topR g n) with | some a => topR g n ++ [(a : Int)] | none => topR g n
theorem nextN_at {g : Gr} {out : List Int} {a : Nat} (ha : (a : Int) < g.1) (h : Rdy g out a) (hn : ∀ b : Nat, b < a → ¬ Rdy g out (b : Int)) : nextN g out = some a := by
  unfold nextN
  rw [List.find?_range_eq_some]
  refine ⟨rdB_iff.2 h, by simp; omega, fun j hj => ?_⟩
  have := hn j hj
  simp [rdB, this]
theorem nextN_some {g : Gr} {out : List Int} {a : Nat} (h : nextN g out = some a) : (a : Int) < g.1 ∧ Rdy g out a := by
  unfold nextN at h
  rw [List.find?_range_eq_some] at h
  exact ⟨by have := h.2.1; simp at this; omega, rdB_iff.1 h.1⟩
theorem nextN_no {g : Gr} {out : List Int} (h : nextN g out = none) {a : Nat} (ha : (a : Int) < g.1) : ¬ Rdy g out (a : Int) := by
  unfold nextN at h
  rw [List.find?_range_eq_none] at h
  have := h a (by omega)
  intro hr
  rw [rdB_iff.2 hr] at this; simp at this
structure TI (g : Gr) (out : List Int) : Prop where
  nd : out.Nodup
  rng : ∀ x ∈ out, 0 ≤ x ∧ x < g.1
  pre : ∀ j, j < out.length → ∀ k, k < g.2.1.length → (eAtT g k).2.1 = out.getD j 0 → ∃ i, i < j ∧ out.getD i 0 = (eAtT g k).1
theorem mem_getD {xs : List Int} {x : Int} (h : x ∈ xs) : ∃ i, i < xs.length ∧ xs.getD i 0 = x := by
  obtain ⟨i, hi, rfl⟩ := List.getElem_of_mem h
  exact ⟨i, hi, by rw [List.getD_eq_getElem?_getD, List.getElem?_eq_getElem hi]; rfl⟩
theorem getD_memI {xs : List Int} {i : Nat} (h : i < xs.length) : xs.getD i 0 ∈ xs := by
  rw [List.getD_eq_getElem?_getD, List.getElem?_eq_getElem h]; exact List.getElem_mem h
theorem TI.add {g : Gr} {out : List Int} {a : Nat} (h : TI g out) (ha : (a : Int) < g.1) (hr : Rdy g out a) : TI g (out ++ [(a : Int)]) := by
  refine ⟨?_, fun x hx => ?_, fun j hj k hk he => ?_⟩
  · rw [List.nodup_append]
    exact ⟨h.nd, by simp, fun x hx y hy => by simp at hy; rw [hy]; exact fun e => hr.1 (e ▸ hx)⟩
  · rcases List.mem_append.1 hx with hx | hx
    · exact h.rng x hx
    · simp only [List.mem_singleton] at hx; rw [hx]; omega
  · have g1 : ∀ i, i < out.length → (out ++ [(a : Int)]).getD i 0 = out.getD i 0 := fun i hi => by simp [List.getD_eq_getElem?_getD, List.getElem?_append_left hi]
    by_cases e : j = out.length
    · subst e
      have e2 : (out ++ [(a : Int)]).getD out.length 0 = a := by simp [List.getD_eq_getElem?_getD]
      rw [e2] at he
      obtain ⟨i, hi, hx⟩ := mem_getD (hr.2 k hk he)
      exact ⟨i, hi, by rw [g1 i hi]; exact hx⟩
    · have hj' : j < out.length := by simp at hj; omega
      rw [g1 j hj'] at he
      obtain ⟨i, hi, hx⟩ := h.pre j hj' k hk he
      exact ⟨i, hi, by rw [g1 i (by omega)]; exact hx⟩
theorem topR_inv {g : Gr} : ∀ {n : Nat}, TI g (topR g n) := by
  intro n
  induction n with
  | zero => exact ⟨List.nodup_nil, (fun x hx => by cases hx), (fun j hj => absurd hj (Nat.not_lt_zero _))⟩
  | succ n ih =>
    unfold topR
    cases h : nextN g (topR g n) with
    | none => exact ih
    | some a => obtain ⟨h1, h2⟩ := nextN_some h; exact ih.add h1 h2
theorem topR_le {g : Gr} : ∀ {n : Nat}, (topR g n).length ≤ n := by
  intro n
  induction n with
  | zero => simp [topR]
  | succ n ih =>
    unfold topR
    cases h : nextN g (topR g n) with
    | none => simp only; omega
    | some a => simp only [List.length_append, List.length_singleton]; omega
theorem TI.len {g : Gr} {out : List Int} (h : TI g out) : out.length ≤ g.1.toNat := nodup_le g.1.toNat out h.nd (fun x hx => by have := h.rng x hx; omega)
theorem TI.all {g : Gr} {out : List Int} (h : TI g out) (hl : out.length = g.1.toNat) {x : Int} (h0 : 0 ≤ x) (h1 : x < g.1) : x ∈ out := by
  refine Classical.byContradiction (fun hn => ?_)
  have := nodup_le g.1.toNat (x :: out) (List.nodup_cons.2 ⟨hn, h.nd⟩) (fun y hy => by
    rcases List.mem_cons.1 hy with rfl | hy
    · omega
    · have := h.rng y hy; omega)
  simp at this
  omega
theorem nd_inj {xs : List Int} (h : xs.Nodup) {i j : Nat} (hi : i < xs.length) (hj : j < xs.length) (e : xs.getD i 0 = xs.getD j 0) : i = j := by
  rw [List.getD_eq_getElem?_getD, List.getD_eq_getElem?_getD, List.getElem?_eq_getElem hi, List.getElem?_eq_getElem hj] at e
  exact (List.getElem_inj h).1 e
theorem acyc_of {g : Gr} {out : List Int} (hv : ValidG g) (h : TI g out) (hl : out.length = g.1.toNat) : Acyc g := by
  intro a ha
  refine Classical.byContradiction (fun hn => ?_)
  have hn : (reachL g (tos g a)).getD a false = true := by simpa using hn
  obtain ⟨j, hj, ea⟩ := mem_getD (h.all hl (x := (a : Int)) (by omega) ha)
  -- what comes behind a
  have key := reach_sound (g := g) (l := tos g a) (P := fun b => ∃ i, j < i ∧ i < out.length ∧ out.getD i 0 = (b : Int)) (fun k hk ⟨i, h1, h2, h3⟩ => ?_) (fun k hk => ?_) a hn
  · obtain ⟨i, h1, h2, h3⟩ := key
    have := nd_inj h.nd h2 hj (h3.trans ea.symm)
    omega
  · have he := hv.ends hk
    obtain ⟨i', hi', e'⟩ := mem_getD (h.all hl he.2.2.1 he.2.2.2.1)
    obtain ⟨i2, h4, h5⟩ := h.pre i' hi' k hk e'.symm
    have e6 : (((eAtT g k).1.toNat : Nat) : Int) = (eAtT g k).1 := by unfold eAtT; omega
    rw [e6] at h3
    have := nd_inj h.nd (by omega) h2 (h5.trans h3.symm)
    exact ⟨i', by omega, hi', by rw [e']; unfold eAtT; omega⟩
  · have hm := getD_memI hk
    obtain ⟨k', h1, h2, h3⟩ := tos_mem.1 hm
    have he := hv.ends h1
    obtain ⟨i', hi', e'⟩ := mem_getD (h.all hl he.2.2.1 he.2.2.2.1)
    obtain ⟨i2, h4, h5⟩ := h.pre i' hi' k' h1 e'.symm
    have := nd_inj h.nd (by omega) hj (h5.trans (h2.trans ea.symm))
    refine ⟨i', by omega, hi', ?_⟩
    rw [e', ← h3]
    unfold eAtT; omega
theorem acyc_next {g : Gr} {out : List Int} (hv : ValidG g) (h : TI g out) (hl : out.length < g.1.toNat) (hc : Acyc g) : nextN g out ≠ none := by
  intro hno
  -- a node before each one that is left
  have hpred : ∀ a : Nat, (a : Int) < g.1 → (a : Int) ∉ out → ∃ b : Nat, (b : Int) < g.1 ∧ (b : Int) ∉ out ∧ ∃ k, k < g.2.1.length ∧ (eAtT g k).1 = (b : Int) ∧ (eAtT g k).2.1 = (a : Int) := fun a ha hn => by
    have := nextN_no hno ha
    unfold Rdy at this
    obtain ⟨k, hk⟩ := Classical.not_forall.1 (fun h2 => this ⟨hn, h2⟩)
    obtain ⟨k1, k2⟩ := Classical.not_imp.1 hk
    obtain ⟨k3, k4⟩ := Classical.not_imp.1 k2
    have he := hv.ends k1
    refine ⟨(eAtT g k).1.toNat, by unfold eAtT; omega, ?_, k, k1, by unfold eAtT; omega, k3⟩
    have e6 : (((eAtT g k).1.toNat : Nat) : Int) = (eAtT g k).1 := by unfold eAtT; omega
    rw [e6]; exact k4
  let S := { a : Nat // (a : Int) < g.1 ∧ (a : Int) ∉ out }
  have hne : ∃ a : Nat, (a : Int) < g.1 ∧ (a : Int) ∉ out := by
    refine Classical.byContradiction (fun hn => ?_)
    have hall : ∀ a : Nat, (a : Int) < g.1 → (a : Int) ∈ out := fun a ha => Classical.byContradiction (fun h2 => hn ⟨a, ha, h2⟩)
    have h2 : ((List.range g.1.toNat).map fun a : Nat => (a : Int)).Nodup := List.Pairwise.map _ (fun a b hab e => hab (by omega)) (List.nodup_range (n := g.1.toNat))
    have h3 := List.Nodup.length_le_of_subset h2 (l₂ := out) (fun x hx => by
      obtain ⟨a, ha, rfl⟩ := List.mem_map.1 hx
      exact hall a (by simp at ha; omega))
    simp at h3
    omega
  obtain ⟨a0, ha0⟩ := hne
  let f : S → S := fun a => ⟨Classical.choose (hpred a.1 a.2.1 a.2.2), (Classical.choose_spec (hpred a.1 a.2.1 a.2.2)).1, (Classical.choose_spec (hpred a.1 a.2.1 a.2.2)).2.1⟩
  have hf : ∀ a : S, ∃ k, k < g.2.1.length ∧ (eAtT g k).1 = ((f a).1 : Int) ∧ (eAtT g k).2.1 = (a.1 : Int) := fun a => (Classical.choose_spec (hpred a.1 a.2.1 a.2.2)).2.2
  let c : Nat → S := fun n => Nat.rec ⟨a0, ha0⟩ (fun _ x => f x) n
  have hc1 : ∀ n, c (n + 1) = f (c n) := fun n => rfl
  -- an earlier one is reached from a later one
  have back : ∀ i d, (reachL g (tos g ((c (i + d + 1)).1 : Int))).getD (c i).1 false = true := by
    intro i d
    induction d with
    | zero =>
      obtain ⟨k, k1, k2, k3⟩ := hf (c i)
      have hm : ((c i).1 : Int) ∈ tos g ((c (i + 0 + 1)).1 : Int) := tos_mem.2 ⟨k, k1, k2, k3⟩
      obtain ⟨j, hj, e⟩ := mem_getD hm
      have := reach_start (g := g) (l := tos g ((c (i + 0 + 1)).1 : Int)) (tos_rng hv) hj
      rw [e] at this
      exact this
    | succ d ih =>
      -- all that is reached from c (i + d + 1) is reached from the one before it
      refine reach_sound (g := g) (l := tos g ((c (i + d + 1)).1 : Int)) (P := fun b => (reachL g (tos g ((c (i + (d + 1) + 1)).1 : Int))).getD b false = true) (fun k hk hb => reach_closed hv k hk hb) (fun k hk => ?_) _ ih
      obtain ⟨k', k1, k2, k3⟩ := tos_mem.1 (getD_memI hk)
      rw [← k3]
      refine reach_closed hv k' k1 ?_
      obtain ⟨k'', m1, m2, m3⟩ := hf (c (i + d + 1))
      have hm : ((c (i + d + 1)).1 : Int) ∈ tos g ((c (i + (d + 1) + 1)).1 : Int) := tos_mem.2 ⟨k'', m1, m2, m3⟩
      obtain ⟨j, hj, e⟩ := mem_getD hm
      have := reach_start (g := g) (l := tos g ((c (i + (d + 1) + 1)).1 : Int)) (tos_rng hv) hj
      rw [e] at this
      rw [k2]
      exact this
  have hnd : ¬ ((List.range (g.1.toNat + 1)).map fun n => ((c n).1 : Int)).Nodup := fun hnd => by
    have := nodup_le g.1.toNat _ hnd (fun x hx => by
      obtain ⟨n, _, rfl⟩ := List.mem_map.1 hx
      have := (c n).2.1
      omega)
    simp at this
    omega
  refine hnd ?_
  rw [List.Nodup, List.pairwise_map]
  refine List.Pairwise.imp_of_mem (R := fun a b => a < b) ?_ List.pairwise_lt_range
  intro i j _ _ hij e
  obtain ⟨d, rfl⟩ : ∃ d, j = i + d + 1 := ⟨j - i - 1, by omega⟩
  have h1 := back i d
  have h2 := hc (c (i + d + 1)).1 (c (i + d + 1)).2.1
  have e' : (c i).1 = (c (i + d + 1)).1 := by have : ((c i).1 : Int) = ((c (i + d + 1)).1 : Int) := e; omega
  rw [e'] at h1
  rw [h1] at h2; cases h2
end Go.Proofs.YtbepgedckfhifaaGreat
