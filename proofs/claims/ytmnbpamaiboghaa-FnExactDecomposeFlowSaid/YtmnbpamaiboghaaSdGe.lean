/-
  The cheapest path, of both.
-/
import Derived.Test.YtmnbpamaiboghaaSdGd
import Derived.Test.YtmnbpamaiboghaaSdFg
import Derived.Test.YtmnbpamaiboghaaSdFo
namespace Go.Proofs.Ytmnbpamaiboghaa
set_option linter.unusedVariables false
set_option linter.unusedSimpArgs false
set_option maxRecDepth 100000
set_option maxHeartbeats 4000000
attribute [local irreducible] Fn
structure Cheap (g : Gr) (v : List Int) (s t : Int) : Prop where
  p : PriV g v
  s0 : 0 ≤ s
  s1 : s < g.1
  t0 : 0 ≤ t
  t1 : t < g.1
open Classical in
noncomputable def chpL (g : Gr) (v : List Int) (s t : Int) : List Int := if Cheap g v s t ∧ 0 ≤ cAt (costs g v t) s then chp g v s t else []
open Classical in
noncomputable def chpP (g : Gr) (v : List Int) (s t : Int) : Int := if Cheap g v s t ∧ 0 ≤ cAt (costs g v t) s then pprice g v (chp g v s t) else -1
theorem tgt_iff {g : Gr} {v c : List Int} {a k : Int} : tgt g v c a k = true ↔ 0 ≤ c.getD (g.2.1.getD k.toNat default).2.1.toNat 0 ∧ c.getD (g.2.1.getD k.toNat default).2.1.toNat 0 + v.getD k.toNat 0 + 1 = c.getD a.toNat 0 := decide_eq_true_iff
/-- The way so far: pre, then node a; n steps may be left. -/
structure Wy (g : Gr) (v : List Int) (s t : Int) (pre : List Int) (a : Int) : Prop where
  a0 : 0 ≤ a
  a1 : a < g.1
  nn : 0 ≤ (costs g v t).getD a.toNat 0
  ch : ∃ n : Nat, (costs g v t).getD a.toNat 0 ≤ n ∧ chp g v s t = pre ++ cch g v (costs g v t) t n a
  ln : pre.length ≤ 707
theorem Wy.next {g : Gr} {v : List Int} {s t : Int} {pre : List Int} {a : Int} {i : Nat} (hp : PriV g v) (h0 : 0 ≤ t) (h1 : t < g.1) (h : Wy g v s t pre a) (ha : a ≠ t) (hi : i < (eFrom g a).length)
    (ht : tgt g v (costs g v t) a ((eFrom g a).getD i 0) = true) (hn : ∀ k, k < i → tgt g v (costs g v t) a ((eFrom g a).getD k 0) = false) :
    Wy g v s t (pre ++ [a]) (g.2.1.getD ((eFrom g a).getD i 0).toNat default).2.1 ∧ (costs g v t).getD (g.2.1.getD ((eFrom g a).getD i 0).toNat default).2.1.toNat 0 < (costs g v t).getD a.toNat 0 := by
  have hx := eFrom_ok hi
  have he := hp.gv.ends (i := ((eFrom g a).getD i 0).toNat) (by omega)
  have hw := hp.rng ((eFrom g a).getD i 0).toNat (by rw [hp.len]; omega)
  have hb := tgt_iff.1 ht
  obtain ⟨n, hn1, hn2⟩ := h.ch
  have hnn := h.nn
  obtain ⟨m, rfl⟩ : ∃ m, n = m + 1 := ⟨n - 1, by omega⟩
  have hnx := nxt_at hi ht hn
  have hnx' : nxt g v (costs g v t) a = (g.2.1.getD ((eFrom g a).getD i 0).toNat default).2.1 := hnx
  rw [cch_step ha, hnx'] at hn2
  have hl : (chp g v s t).length ≤ 708 := cch_len
  have hl2 : (chp g v s t).length = pre.length + (1 + (cch g v (costs g v t) t m (g.2.1.getD ((eFrom g a).getD i 0).toNat default).2.1).length) := by rw [hn2]; simp; omega
  have hl3 : 1 ≤ (cch g v (costs g v t) t m (g.2.1.getD ((eFrom g a).getD i 0).toNat default).2.1).length := by
    cases m with
    | zero => simp [cch]
    | succ m => unfold cch; split <;> simp
  refine ⟨⟨he.2.2.1, he.2.2.2.1, hb.1, ⟨m, by omega, by rw [hn2]; simp⟩, by simp; omega⟩, by omega⟩
attribute [local irreducible] costs chp chpL chpP cch eFrom tgt pprice priOk
end Go.Proofs.Ytmnbpamaiboghaa
