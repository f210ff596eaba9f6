/-
  The least costs to a node, in plain words.
-/
import Derived.Test.YtmnbpamaiboghaaSdFq
import Derived.Test.YtmnbpamaiboghaaSdFi
namespace Go.Proofs.Ytmnbpamaiboghaa
set_option linter.unusedVariables false
set_option linter.unusedSimpArgs false
abbrev cAt (c : List Int) (a : Int) : Int := c.getD a.toNat 0
structure PriV (g : Gr) (v : List Int) : Prop where
  gv : ValidG g
  len : v.length = g.2.1.length
  rng : ∀ k, k < v.length → 0 ≤ v.getD k 0 ∧ v.getD k 0 ≤ 100
/-- Edge i makes a node cheaper. -/
def Bet (g : Gr) (v c : List Int) (i : Nat) : Prop := 0 ≤ cAt c (eAt g i).2.1 ∧ (cAt c (eAt g i).1 < 0 ∨ cAt c (eAt g i).2.1 + v.getD i 0 + 1 < cAt c (eAt g i).1)
instance (g : Gr) (v c : List Int) (i : Nat) : Decidable (Bet g v c i) := inferInstanceAs (Decidable (_ ∧ _))
def rx (g : Gr) (v c : List Int) (i : Nat) : List Int := if Bet g v c i then c.set (eAt g i).1.toNat (cAt c (eAt g i).2.1 + v.getD i 0 + 1) else c
def ps (g : Gr) (v c : List Int) : Nat → List Int
  | 0 => c
  | n + 1 => rx g v (ps g v c n) n
def pss (g : Gr) (v c : List Int) : Nat → List Int
  | 0 => c
  | n + 1 => ps g v (pss g v c n) g.2.1.length
def cnt (c : List Int) : Nat := c.countP fun x => decide (0 ≤ x)
structure CI (g : Gr) (v : List Int) (t : Int) (c : List Int) : Prop where
  len : c.length = g.1.toNat
  tz : cAt c t = 0
  lo : ∀ a : Nat, a < c.length → -1 ≤ c.getD a 0
  hi : ∀ a : Nat, a < c.length → c.getD a 0 ≤ 101 * ((cnt c : Int) - 1)
  par : ∀ a : Nat, a < c.length → 0 ≤ c.getD a 0 → (a : Int) ≠ t → ∃ k, k < g.2.1.length ∧ (eAt g k).1 = (a : Int) ∧ 0 ≤ cAt c (eAt g k).2.1 ∧ cAt c (eAt g k).2.1 + v.getD k 0 + 1 ≤ c.getD a 0
theorem cnt_le (c : List Int) : cnt c ≤ c.length := List.countP_le_length
theorem cnt_set {c : List Int} {i : Nat} {x : Int} (hi : i < c.length) (hx : 0 ≤ x) : cnt (c.set i x) = cnt c + if c.getD i 0 < 0 then 1 else 0 := by
  unfold cnt
  induction c generalizing i with
  | nil => simp at hi
  | cons y c ih =>
    cases i with
    | zero =>
      simp only [List.set_cons_zero, List.countP_cons, List.getD_cons_zero]
      have : decide (0 ≤ x) = true := decide_eq_true hx
      rw [this]
      by_cases h : y < 0
      · have h2 : decide (0 ≤ y) = false := decide_eq_false (by omega)
        rw [if_pos h, h2]; simp
      · have h2 : decide (0 ≤ y) = true := decide_eq_true (by omega)
        rw [if_neg h, h2]; simp
    | succ i =>
      have hi : i < c.length := by simpa using hi
      simp only [List.set_cons_succ, List.countP_cons, List.getD_cons_succ]
      rw [ih hi]; omega
theorem CI.top {g : Gr} {v c : List Int} {t : Int} (h : CI g v t c) (hv : ValidG g) : ∀ a : Nat, a < c.length → c.getD a 0 ≤ 707 := fun a ha => by
  have h1 := h.hi a ha
  have h2 := cnt_le c
  have h3 := h.len
  have h4 := hv.hi
  omega
theorem rx_no {g : Gr} {v c : List Int} {i : Nat} (h : ¬ Bet g v c i) : rx g v c i = c := if_neg h
theorem rx_yes {g : Gr} {v c : List Int} {i : Nat} (h : Bet g v c i) : rx g v c i = c.set (eAt g i).1.toNat (cAt c (eAt g i).2.1 + v.getD i 0 + 1) := if_pos h
theorem rx_inv {g : Gr} {v c : List Int} {t : Int} {i : Nat} (hp : PriV g v) (h0 : 0 ≤ t) (h : CI g v t c) (hi : i < g.2.1.length) : CI g v t (rx g v c i) := by
  by_cases hb : Bet g v c i
  · rw [rx_yes hb]
    obtain ⟨b1, b2⟩ := hb
    have he := hp.gv.ends hi
    have hw := hp.rng i (by rw [hp.len]; exact hi)
    have hlen := h.len
    have hf : (eAt g i).1.toNat < c.length := by unfold eAt; omega
    have hft : (eAt g i).1 ≠ t := fun e => by rw [e, h.tz] at b2; omega
    have hfb : (eAt g i).1.toNat ≠ (eAt g i).2.1.toNat := by unfold eAt; omega
    have hbn : (eAt g i).2.1.toNat < c.length := by unfold eAt; omega
    have hcs := cnt_set (c := c) (x := cAt c (eAt g i).2.1 + v.getD i 0 + 1) hf (by omega)
    have hbi := h.hi _ hbn
    have hft' : (eAt g i).1.toNat ≠ t.toNat := by unfold eAt at *; omega
    refine ⟨by rw [List.length_set]; exact hlen, ?_, fun a ha => ?_, fun a ha => ?_, fun a ha h1 h2 => ?_⟩
    · show (c.set _ _).getD t.toNat 0 = 0
      rw [getD_set_ne hft']; exact h.tz
    · rw [List.length_set] at ha
      by_cases e : (eAt g i).1.toNat = a
      · subst e; rw [getD_set_eq hf]; omega
      · rw [getD_set_ne e]; exact h.lo a ha
    · rw [List.length_set] at ha
      have hai := h.hi a ha
      have hbi' : cAt c (eAt g i).2.1 ≤ 101 * ((cnt c : Int) - 1) := hbi
      have b2' : c.getD (eAt g i).1.toNat 0 < 0 ∨ cAt c (eAt g i).2.1 + v.getD i 0 + 1 < c.getD (eAt g i).1.toNat 0 := b2
      by_cases hn : c.getD (eAt g i).1.toNat 0 < 0
      · rw [if_pos hn] at hcs
        rw [hcs]
        by_cases e : (eAt g i).1.toNat = a
        · subst e; rw [getD_set_eq hf]; push_cast; omega
        · rw [getD_set_ne e]; push_cast; omega
      · rw [if_neg hn] at hcs
        rw [hcs, Nat.add_zero]
        by_cases e : (eAt g i).1.toNat = a
        · subst e; rw [getD_set_eq hf]; omega
        · rw [getD_set_ne e]; exact hai
    · rw [List.length_set] at ha
      by_cases e : (eAt g i).1.toNat = a
      · subst e
        rw [getD_set_eq hf]
        refine ⟨i, hi, by unfold eAt; omega, ?_, ?_⟩
        · show 0 ≤ (c.set _ _).getD _ 0
          rw [getD_set_ne hfb]; exact b1
        · show (c.set _ _).getD _ 0 + _ + 1 ≤ _
          rw [getD_set_ne hfb]; exact Int.le_refl _
      · rw [getD_set_ne e] at h1 ⊢
        obtain ⟨k, k1, k2, k3, k4⟩ := h.par a ha h1 h2
        refine ⟨k, k1, k2, ?_⟩
        by_cases e2 : (eAt g i).1.toNat = (eAt g k).2.1.toNat
        · show 0 ≤ (c.set _ _).getD (eAt g k).2.1.toNat 0 ∧ (c.set _ _).getD (eAt g k).2.1.toNat 0 + _ + 1 ≤ _
          rw [← e2, getD_set_eq hf]
          have k3' : 0 ≤ c.getD (eAt g k).2.1.toNat 0 := k3
          have k4' : c.getD (eAt g k).2.1.toNat 0 + v.getD k 0 + 1 ≤ c.getD a 0 := k4
          rw [← e2] at k3' k4'
          have b2' : c.getD (eAt g i).1.toNat 0 < 0 ∨ cAt c (eAt g i).2.1 + v.getD i 0 + 1 < c.getD (eAt g i).1.toNat 0 := b2
          omega
        · show 0 ≤ (c.set _ _).getD (eAt g k).2.1.toNat 0 ∧ (c.set _ _).getD (eAt g k).2.1.toNat 0 + _ + 1 ≤ _
          rw [getD_set_ne e2]; exact ⟨k3, k4⟩
  · rw [rx_no hb]; exact h
theorem ps_inv {g : Gr} {v c : List Int} {t : Int} (hp : PriV g v) (h0 : 0 ≤ t) (h : CI g v t c) : ∀ {n : Nat}, n ≤ g.2.1.length → CI g v t (ps g v c n) := by
  intro n
  induction n with
  | zero => intro _; exact h
  | succ n ih => intro hn; exact rx_inv hp h0 (ih (by omega)) (by omega)
/-- No edge makes a node cheaper. -/
def Fixd (g : Gr) (v c : List Int) : Prop := ∀ k, k < g.2.1.length → ¬ Bet g v c k
theorem Fixd.at_ {g : Gr} {v c : List Int} (h : Fixd g v c) {k : Nat} (hk : k < g.2.1.length) (h0 : 0 ≤ cAt c (eAt g k).2.1) : 0 ≤ cAt c (eAt g k).1 ∧ cAt c (eAt g k).1 ≤ cAt c (eAt g k).2.1 + v.getD k 0 + 1 := by
  have := h k hk
  unfold Bet at this
  omega
/-- What is known of costs is not below what holds. -/
theorem CI.ge {g : Gr} {v c d : List Int} {t : Int} (hp : PriV g v) (h : CI g v t c) (hd : CI g v t d) (hf : Fixd g v d) : ∀ (n a : Nat), a < c.length → 0 ≤ c.getD a 0 → (c.getD a 0).toNat = n → 0 ≤ d.getD a 0 ∧ d.getD a 0 ≤ c.getD a 0 := by
  intro n
  induction n using Nat.strongRecOn with
  | _ n ih =>
    intro a ha h0 hn
    by_cases e : (a : Int) = t
    · have h1 : c.getD a 0 = 0 := by have := h.tz; rw [← e] at this; exact this
      have h2 : d.getD a 0 = 0 := by have := hd.tz; rw [← e] at this; exact this
      omega
    · obtain ⟨k, k1, k2, k3, k4⟩ := h.par a ha h0 e
      have he := hp.gv.ends k1
      have hw := hp.rng k (by rw [hp.len]; exact k1)
      have hb : (eAt g k).2.1.toNat < c.length := by rw [h.len]; unfold eAt; omega
      have k3' : 0 ≤ c.getD (eAt g k).2.1.toNat 0 := k3
      have k4' : c.getD (eAt g k).2.1.toNat 0 + v.getD k 0 + 1 ≤ c.getD a 0 := k4
      obtain ⟨i1, i2⟩ := ih (c.getD (eAt g k).2.1.toNat 0).toNat (by omega) _ hb k3' rfl
      obtain ⟨j1, j2⟩ := hf.at_ k1 i1
      have ea : (eAt g k).1.toNat = a := by rw [k2]; rfl
      have j1' : 0 ≤ d.getD (eAt g k).1.toNat 0 := j1
      have j2' : d.getD (eAt g k).1.toNat 0 ≤ d.getD (eAt g k).2.1.toNat 0 + v.getD k 0 + 1 := j2
      rw [ea] at j1' j2'
      omega
theorem CI.uniq {g : Gr} {v c d : List Int} {t : Int} (hp : PriV g v) (h : CI g v t c) (hc : Fixd g v c) (hd : CI g v t d) (hf : Fixd g v d) : c = d := by
  refine ext_getD (z := 0) (by rw [h.len, hd.len]) (fun a ha => ?_)
  have ha' : a < d.length := by rw [hd.len, ← h.len]; exact ha
  have l1 := h.lo a ha
  have l2 := hd.lo a ha'
  by_cases h0 : 0 ≤ c.getD a 0
  · have h1 := h.ge hp hd hf _ a ha h0 rfl
    have h2 := hd.ge hp h hc _ a ha' h1.1 rfl
    omega
  · by_cases h1 : 0 ≤ d.getD a 0
    · have h2 := hd.ge hp h hc _ a ha' h1 rfl
      omega
    · omega
open Classical in
noncomputable def costs (g : Gr) (v : List Int) (t : Int) : List Int := if h : ∃ c, CI g v t c ∧ Fixd g v c then Classical.choose h else []
def sumP (f : Nat → Int) : Nat → Int
  | 0 => 0
  | n + 1 => sumP f n + f n
/-- What is still to be paid: it goes down. -/
def Mu (c : List Int) : Int := sumP (fun a => if c.getD a 0 < 0 then 1000 else c.getD a 0) c.length
theorem sumP_lt {f f' : Nat → Int} {i : Nat} (h1 : f' i < f i) (h2 : ∀ k, k ≠ i → f' k = f k) : ∀ {n : Nat}, i < n → sumP f' n < sumP f n := by
  have same : ∀ {n : Nat}, n ≤ i → sumP f' n = sumP f n := by
    intro n
    induction n with
    | zero => intro _; rfl
    | succ n ih => intro hn; unfold sumP; rw [ih (by omega), h2 n (by omega)]
  intro n
  induction n with
  | zero => intro h; omega
  | succ n ih =>
    intro hn
    unfold sumP
    by_cases e : n = i
    · subst e; rw [same (Nat.le_refl _)]; omega
    · have := ih (by omega); rw [h2 n e]; omega
theorem rx_less {g : Gr} {v c : List Int} {t : Int} {i : Nat} (hp : PriV g v) (h : CI g v t c) (hi : i < g.2.1.length) (hb : Bet g v c i) : Mu (rx g v c i) < Mu c := by
  rw [rx_yes hb]
  obtain ⟨b1, b2⟩ := hb
  have he := hp.gv.ends hi
  have hw := hp.rng i (by rw [hp.len]; exact hi)
  have hlen := h.len
  have hf : (eAt g i).1.toNat < c.length := by unfold eAt; omega
  have hbn : (eAt g i).2.1.toNat < c.length := by unfold eAt; omega
  have ht := h.top hp.gv _ hbn
  unfold Mu
  rw [List.length_set]
  refine sumP_lt (i := (eAt g i).1.toNat) ?_ (fun k hk => ?_) hf
  · (try simp only)
    rw [getD_set_eq hf, if_neg (by omega)]
    have b2' : c.getD (eAt g i).1.toNat 0 < 0 ∨ cAt c (eAt g i).2.1 + v.getD i 0 + 1 < c.getD (eAt g i).1.toNat 0 := b2
    split
    · have ht' : cAt c (eAt g i).2.1 ≤ 707 := ht
      omega
    · omega
  · (try simp only)
    rw [getD_set_ne (Ne.symm hk)]
theorem ps_le {g : Gr} {v c : List Int} {t : Int} (hp : PriV g v) (h0 : 0 ≤ t) (h : CI g v t c) {n : Nat} (hn : n < g.2.1.length) : Mu (ps g v c (n + 1)) ≤ Mu (ps g v c n) := by
  by_cases hb : Bet g v (ps g v c n) n
  · have := rx_less hp (ps_inv hp h0 h (n := n) (by omega)) hn hb
    show Mu (rx g v _ n) ≤ _
    omega
  · show Mu (rx g v _ n) ≤ _
    rw [rx_no hb]; exact Int.le_refl _
/-- A pass over the first n edges: nothing has changed, or less is to be paid. -/
theorem ps_or {g : Gr} {v c : List Int} {t : Int} (hp : PriV g v) (h0 : 0 ≤ t) (h : CI g v t c) : ∀ {n : Nat}, n ≤ g.2.1.length → (ps g v c n = c ∧ ∀ k, k < n → ¬ Bet g v c k) ∨ Mu (ps g v c n) < Mu c := by
  intro n
  induction n with
  | zero => intro _; exact .inl ⟨rfl, fun k hk => by omega⟩
  | succ n ih =>
    intro hn
    rcases ih (by omega) with ⟨h1, h2⟩ | h1
    · by_cases hb : Bet g v c n
      · right
        show Mu (rx g v (ps g v c n) n) < _
        rw [h1]
        exact rx_less hp h (by omega) hb
      · left
        refine ⟨?_, fun k hk => ?_⟩
        · show rx g v (ps g v c n) n = c
          rw [h1, rx_no hb]
        · by_cases e : k = n
          · rw [e]; exact hb
          · exact h2 k (by omega)
    · right
      have := ps_le hp h0 h (n := n) (by omega)
      omega
def c0 (g : Gr) (t : Int) : List Int := (List.replicate g.1.toNat (-1)).set t.toNat 0
/-- How many nodes are nearer. -/
def rank (d : List Int) (a : Nat) : Nat := (List.range d.length).countP fun b => decide (0 ≤ d.getD b 0 ∧ d.getD b 0 < d.getD a 0)
/-- The edge leads along a cheapest path. -/
def tgt (g : Gr) (v c : List Int) (a k : Int) : Bool := decide (0 ≤ cAt c (eAt g k.toNat).2.1 ∧ cAt c (eAt g k.toNat).2.1 + v.getD k.toNat 0 + 1 = cAt c a)
def nxt (g : Gr) (v c : List Int) (a : Int) : Int := match (eFrom g a).find? (tgt g v c a) with | some k => (eAt g k.toNat).2.1 | none => a
theorem nxt_at {g : Gr} {v c : List Int} {a : Int} {i : Nat} (hi : i < (eFrom g a).length) (h : tgt g v c a ((eFrom g a).getD i 0) = true) (hn : ∀ k, k < i → tgt g v c a ((eFrom g a).getD k 0) = false) : nxt g v c a = (eAt g ((eFrom g a).getD i 0).toNat).2.1 := by
  have e : ∀ k, k < (eFrom g a).length → ∀ hk : k < (eFrom g a).length, (eFrom g a).getD k 0 = (eFrom g a)[k] := fun k _ hk => by rw [List.getD_eq_getElem?_getD, List.getElem?_eq_getElem hk]; rfl
  have : (eFrom g a).find? (tgt g v c a) = some ((eFrom g a).getD i 0) := by
    rw [List.find?_eq_some_iff_getElem]
    refine ⟨h, i, hi, (e i hi hi).symm, fun j hj => ?_⟩
    have := hn j hj
    rw [e j (by omega) (by omega)] at this
    simp [this]
  unfold nxt
  rw [this]
def cch (g : Gr) (v c : List Int) (t : Int) : Nat → Int → List Int
  | 0, a => [a]
  | n + 1, a => if a = t then [a] else a :: cch g v c t n (nxt g v c a)
theorem cch_step {g : Gr} {v c : List Int} {t a : Int} {n : Nat} (h : a ≠ t) : cch g v c t (n + 1) a = a :: cch g v c t n (nxt g v c a) := if_neg h
theorem cch_len {g : Gr} {v c : List Int} {t : Int} : ∀ {n : Nat} {a : Int}, (cch g v c t n a).length ≤ n + 1 := by
  intro n
  induction n with
  | zero => intro a; simp [cch]
  | succ n ih => intro a; unfold cch; split <;> simp; exact ih
/-- The cheapest path, or none; and its price. -/
noncomputable def chp (g : Gr) (v : List Int) (s t : Int) : List Int := cch g v (costs g v t) t 707 s
end Go.Proofs.Ytmnbpamaiboghaa
