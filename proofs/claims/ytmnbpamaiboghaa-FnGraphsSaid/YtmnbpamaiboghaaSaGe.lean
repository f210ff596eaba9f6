/-
  The cheapest path, of both.
-/
import Derived.Test.YtmnbpamaiboghaaSaGd
import Derived.Test.YtmnbpamaiboghaaSaFg
import Derived.Test.YtmnbpamaiboghaaSaFo
namespace Go.Proofs.Ytmnbpamaiboghaa
set_option linter.unusedVariables false
set_option linter.unusedSimpArgs false
set_option maxRecDepth 100000
set_option maxHeartbeats 4000000
attribute [local irreducible] Fn
structure Cheap (g : Gr) (v : List Int) (s t : Int) : Prop where
  p : PriV g v
  s0 : 0 ≤ s
  s1 : s < g.1
  t0 : 0 ≤ t
  t1 : t < g.1
open Classical in
noncomputable def chpL (g : Gr) (v : List Int) (s t : Int) : List Int := if Cheap g v s t ∧ 0 ≤ cAt (costs g v t) s then chp g v s t else []
open Classical in
noncomputable def chpP (g : Gr) (v : List Int) (s t : Int) : Int := if Cheap g v s t ∧ 0 ≤ cAt (costs g v t) s then pprice g v (chp g v s t) else -1
theorem tgt_iff {g : Gr} {v c : List Int} {a k : Int} : tgt g v c a k = true ↔ 0 ≤ c.getD (g.2.1.getD k.toNat default).2.1.toNat 0 ∧ c.getD (g.2.1.getD k.toNat default).2.1.toNat 0 + v.getD k.toNat 0 + 1 = c.getD a.toNat 0 := decide_eq_true_iff
theorem eFrom_leC {g : Gr} {a : Int} : (eFrom g a).length ≤ g.2.1.length := idxs_len
/-- The way so far: pre, then node a; n steps may be left. -/
structure Wy (g : Gr) (v : List Int) (s t : Int) (pre : List Int) (a : Int) : Prop where
  a0 : 0 ≤ a
  a1 : a < g.1
  nn : 0 ≤ (costs g v t).getD a.toNat 0
  ch : ∃ n : Nat, (costs g v t).getD a.toNat 0 ≤ n ∧ chp g v s t = pre ++ cch g v (costs g v t) t n a
  ln : pre.length ≤ 707
theorem Wy.next {g : Gr} {v : List Int} {s t : Int} {pre : List Int} {a : Int} {i : Nat} (hp : PriV g v) (h0 : 0 ≤ t) (h1 : t < g.1) (h : Wy g v s t pre a) (ha : a ≠ t) (hi : i < (eFrom g a).length)
    (ht : tgt g v (costs g v t) a ((eFrom g a).getD i 0) = true) (hn : ∀ k, k < i → tgt g v (costs g v t) a ((eFrom g a).getD k 0) = false) :
    Wy g v s t (pre ++ [a]) (g.2.1.getD ((eFrom g a).getD i 0).toNat default).2.1 ∧ (costs g v t).getD (g.2.1.getD ((eFrom g a).getD i 0).toNat default).2.1.toNat 0 < (costs g v t).getD a.toNat 0 := by
  have hx := eFrom_ok hi
  have he := hp.gv.ends (i := ((eFrom g a).getD i 0).toNat) (by omega)
  have hw := hp.rng ((eFrom g a).getD i 0).toNat (by rw [hp.len]; omega)
  have hb := tgt_iff.1 ht
  obtain ⟨n, hn1, hn2⟩ := h.ch
  have hnn := h.nn
  obtain ⟨m, rfl⟩ : ∃ m, n = m + 1 := ⟨n - 1, by omega⟩
  have hnx := nxt_at hi ht hn
  have hnx' : nxt g v (costs g v t) a = (g.2.1.getD ((eFrom g a).getD i 0).toNat default).2.1 := hnx
  rw [cch_step ha, hnx'] at hn2
  have hl : (chp g v s t).length ≤ 708 := cch_len
  have hl2 : (chp g v s t).length = pre.length + (1 + (cch g v (costs g v t) t m (g.2.1.getD ((eFrom g a).getD i 0).toNat default).2.1).length) := by rw [hn2]; simp; omega
  have hl3 : 1 ≤ (cch g v (costs g v t) t m (g.2.1.getD ((eFrom g a).getD i 0).toNat default).2.1).length := by
    cases m with
    | zero => simp [cch]
    | succ m => unfold cch; split <;> simp
  refine ⟨⟨he.2.2.1, he.2.2.2.1, hb.1, ⟨m, by omega, by rw [hn2]; simp⟩, by simp; omega⟩, by omega⟩
theorem ef1_fn (a : Int) (e : Edg) : Fn Try.prog 118 true (.cons (.agg (EdgA e)) (.cons (.rp false 1 1 (fun _ _ => .I a) 0 0) .nil)) [] (.b (fromB a e)) [] := by
  (refine Fn_of tysOk Try.func118 rfl rfl (by simp [AV.len, Try.f118]) ⟨?_⟩; conv => whnf)
  (repeat' first | (refine splitD (fun hs => Nx.mk ?_) (fun hs => Nx.mk ?_) <;> ((try simp only [Ct.len] at hs); revert hs; intro _; conv => whnf)) | (refine splitB (fun _ => Nx.mk ?_) (fun _ => Nx.mk ?_) <;> conv => whnf) | (refine idxNat (by (first | exact trivial | assumption | omega | (simp only [inK, lenR] at *; omega) | (simp; done) | fail)) (Nx.mk ?_); conv => whnf) | (refine idxPred (by omega) (by (first | exact trivial | assumption | omega | (simp only [inK, lenR] at *; omega) | (simp; done) | fail)) (Nx.mk ?_); conv => whnf) | (refine idxSucc (by (first | exact trivial | assumption | omega | (simp only [inK, lenR] at *; omega) | (simp; done) | fail)) (Nx.mk ?_); conv => whnf) | (refine idxTo (by omega) (by (first | exact trivial | assumption | omega | (simp only [inK, lenR] at *; omega) | (simp; done) | fail)) (Nx.mk ?_); conv => whnf) | (refine mkNat (by omega) (by omega) (Nx.mk ?_); conv => whnf) | (refine ar64 (by omega) (Nx.mk ?_); conv => whnf) | (refine ar_in (by (first | exact trivial | assumption | omega | (simp only [inK, lenR] at *; omega) | (simp; done) | fail)) (Nx.mk ?_); conv => whnf) | (refine nilQ (fun _ => Nx.mk ?_) (Nx.mk ?_) <;> conv => whnf) | (refine condN Try.underlying4 (Nx.mk ?_); conv => whnf) | (refine condN (by (first | exact trivial | assumption | omega | (simp only [inK, lenR] at *; omega) | (simp; done) | fail)) (Nx.mk ?_); conv => whnf) | (refine Nx.mk ?_; conv => whnf))
  all_goals ((refine ⟨[], rfl, ⟨rfl, rfl, trivial, trivial⟩, ?_, ⟨?_, trivial⟩, fun _ => ⟨?_, trivial⟩⟩ <;> ((repeat' ((try conv => whnf); (first | exact trivial | exact Eq.refl _ | exact Or.inl (Eq.refl _) | refine And.intro ?_ ?_ | exact fun _ _ _ _ => Eq.refl _ | refine cellJ (fun _ _ => ?_) | (refine cellB ?_; (conv => whnf); refine And.intro ?_ ?_) | exact Nat.le_of_ble_eq_true (Eq.refl true) | exact ⟨_, _, Eq.refl _, Eq.refl _⟩ | fail))) <;> (try conv => whnf))); unfold fromB; (first | exact Eq.refl _ | exact decide_eq_true (by assumption) | exact decide_eq_false (by assumption) | exact (decide_eq_true (by omega)).symm | exact (decide_eq_false (by omega)).symm | exact decide_eq_true (by omega) | exact decide_eq_false (by omega)))
theorem edgesF_fn (g : Gr) (a : Int) (h : g.2.1.length ≤ 1048576) : Fn Try.prog 117 true (.cons (GrA g) (.cons (.fn 118 (.cons (.rp false 1 1 (fun _ _ => .I a) 0 0) .nil)) .nil)) [] (.os (rt 16)) [(16, .row 3 (.ints .i64 (eFrom g a)))] := by
  (refine Fn_of tysOk Try.func117 rfl rfl (by simp [AV.len, Try.f117]) ⟨?_⟩; conv => whnf)
  (repeat' first | (refine splitD (fun hs => Nx.mk ?_) (fun hs => Nx.mk ?_) <;> ((try simp only [Ct.len] at hs); revert hs; intro _; conv => whnf)) | (refine splitB (fun _ => Nx.mk ?_) (fun _ => Nx.mk ?_) <;> conv => whnf) | (refine idxNat (by (first | exact trivial | assumption | omega | (simp only [inK, lenR] at *; omega) | (simp; done) | fail)) (Nx.mk ?_); conv => whnf) | (refine idxPred (by omega) (by (first | exact trivial | assumption | omega | (simp only [inK, lenR] at *; omega) | (simp; done) | fail)) (Nx.mk ?_); conv => whnf) | (refine idxSucc (by (first | exact trivial | assumption | omega | (simp only [inK, lenR] at *; omega) | (simp; done) | fail)) (Nx.mk ?_); conv => whnf) | (refine idxTo (by omega) (by (first | exact trivial | assumption | omega | (simp only [inK, lenR] at *; omega) | (simp; done) | fail)) (Nx.mk ?_); conv => whnf) | (refine mkNat (by omega) (by omega) (Nx.mk ?_); conv => whnf) | (refine ar64 (by omega) (Nx.mk ?_); conv => whnf) | (refine ar_in (by (first | exact trivial | assumption | omega | (simp only [inK, lenR] at *; omega) | (simp; done) | fail)) (Nx.mk ?_); conv => whnf) | (refine nilQ (fun _ => Nx.mk ?_) (Nx.mk ?_) <;> conv => whnf) | (refine condN Try.underlying4 (Nx.mk ?_); conv => whnf) | (refine condN (by (first | exact trivial | assumption | omega | (simp only [inK, lenR] at *; omega) | (simp; done) | fail)) (Nx.mk ?_); conv => whnf) | (refine Nx.mk ?_; conv => whnf))
  refine loopI tysOk [nm 22] (fun i : Nat => [(11, .I i), (5, .os (rt (nm 22)))]) (fun i => [(nm 22, some (.row 3 (.ints .i64 (idxs (fromB a) g.2.1 i))))]) (· ≤ g.2.1.length) (fun i => g.2.1.length - i) 0 (Nat.zero_le _) ?_ ?_
  · ((try conv => whnf); refine ⟨rfl, by rfl, ?_, ?_⟩ <;> ((repeat' ((try conv => whnf); (first | exact trivial | exact Eq.refl _ | exact Or.inl (Eq.refl _) | refine And.intro ?_ ?_ | exact fun _ _ _ _ => Eq.refl _ | refine cellJ (fun _ _ => ?_) | (refine cellB ?_; (conv => whnf); refine And.intro ?_ ?_) | exact Nat.le_of_ble_eq_true (Eq.refl true) | exact ⟨_, _, Eq.refl _, Eq.refl _⟩ | fail))) <;> (try conv => whnf)))
  · intro i hi
    have hl := idxs_len (φ := fromB a) (es := g.2.1) (n := i)
    (repeat' first | ((with_reducible show ∃ _ : Bool, _); first | (refine ⟨_, [], _, [], _, _, ef1_fn a (g.2.1.getD i default), rfl, trivial, ?_, Nx.mk ?_⟩; (focus (((repeat' ((try conv => whnf); (first | exact trivial | exact Eq.refl _ | exact Or.inl (Eq.refl _) | refine And.intro ?_ ?_ | exact fun _ _ _ _ => Eq.refl _ | refine cellJ (fun _ _ => ?_) | (refine cellB ?_; (conv => whnf); refine And.intro ?_ ?_) | exact Nat.le_of_ble_eq_true (Eq.refl true) | exact ⟨_, _, Eq.refl _, Eq.refl _⟩ | fail))) <;> (try conv => whnf)); done)); conv => whnf))  | (refine splitD (fun hs => Nx.mk ?_) (fun hs => Nx.mk ?_) <;> ((try simp only [Ct.len] at hs); revert hs; intro _; conv => whnf)) | (refine splitB (fun _ => Nx.mk ?_) (fun _ => Nx.mk ?_) <;> conv => whnf) | (refine idxNat (by (first | exact trivial | assumption | omega | (simp only [inK, lenR] at *; omega) | (simp; done) | fail)) (Nx.mk ?_); conv => whnf) | (refine idxPred (by omega) (by (first | exact trivial | assumption | omega | (simp only [inK, lenR] at *; omega) | (simp; done) | fail)) (Nx.mk ?_); conv => whnf) | (refine idxSucc (by (first | exact trivial | assumption | omega | (simp only [inK, lenR] at *; omega) | (simp; done) | fail)) (Nx.mk ?_); conv => whnf) | (refine idxTo (by omega) (by (first | exact trivial | assumption | omega | (simp only [inK, lenR] at *; omega) | (simp; done) | fail)) (Nx.mk ?_); conv => whnf) | (refine mkNat (by omega) (by omega) (Nx.mk ?_); conv => whnf) | (refine ar64 (by omega) (Nx.mk ?_); conv => whnf) | (refine ar_in (by (first | exact trivial | assumption | omega | (simp only [inK, lenR] at *; omega) | (simp; done) | fail)) (Nx.mk ?_); conv => whnf) | (refine nilQ (fun _ => Nx.mk ?_) (Nx.mk ?_) <;> conv => whnf) | (refine condN Try.underlying4 (Nx.mk ?_); conv => whnf) | (refine condN (by (first | exact trivial | assumption | omega | (simp only [inK, lenR] at *; omega) | (simp; done) | fail)) (Nx.mk ?_); conv => whnf) | (refine Nx.mk ?_; conv => whnf))
    · refine ⟨i + 1, by omega, by omega, ?_⟩
      ((try conv => whnf); refine ⟨rfl, by rfl, ?_, ?_⟩ <;> ((repeat' ((try conv => whnf); (first | exact trivial | exact Eq.refl _ | exact Or.inl (Eq.refl _) | refine And.intro ?_ ?_ | exact fun _ _ _ _ => Eq.refl _ | refine cellJ (fun _ _ => ?_) | (refine cellB ?_; (conv => whnf); refine And.intro ?_ ?_) | exact Nat.le_of_ble_eq_true (Eq.refl true) | exact ⟨_, _, Eq.refl _, Eq.refl _⟩ | fail))) <;> (try conv => whnf)))
      exact (if_pos (decide_eq_true (by assumption))).symm
    · refine ⟨i + 1, by omega, by omega, ?_⟩
      ((try conv => whnf); refine ⟨rfl, by rfl, ?_, ?_⟩ <;> ((repeat' ((try conv => whnf); (first | exact trivial | exact Eq.refl _ | exact Or.inl (Eq.refl _) | refine And.intro ?_ ?_ | exact fun _ _ _ _ => Eq.refl _ | refine cellJ (fun _ _ => ?_) | (refine cellB ?_; (conv => whnf); refine And.intro ?_ ?_) | exact Nat.le_of_ble_eq_true (Eq.refl true) | exact ⟨_, _, Eq.refl _, Eq.refl _⟩ | fail))) <;> (try conv => whnf)))
      exact (if_neg (fun hc => by have := of_decide_eq_true hc; contradiction)).symm
    · refine ⟨[(16, nm 22)], rfl, ?_, ?_, ?_, fun _ => ?_⟩
      · ((try conv => whnf); refine ⟨rfl, by rfl, ?_, ?_⟩ <;> ((repeat' ((try conv => whnf); (first | exact trivial | exact Eq.refl _ | exact Or.inl (Eq.refl _) | refine And.intro ?_ ?_ | exact fun _ _ _ _ => Eq.refl _ | refine cellJ (fun _ _ => ?_) | (refine cellB ?_; (conv => whnf); refine And.intro ?_ ?_) | exact Nat.le_of_ble_eq_true (Eq.refl true) | exact ⟨_, _, Eq.refl _, Eq.refl _⟩ | fail))) <;> (try conv => whnf)))
        have e : i = g.2.1.length := by omega
        rw [e]; rfl
      all_goals ((repeat' ((try conv => whnf); (first | exact trivial | exact Eq.refl _ | exact Or.inl (Eq.refl _) | refine And.intro ?_ ?_ | exact fun _ _ _ _ => Eq.refl _ | refine cellJ (fun _ _ => ?_) | (refine cellB ?_; (conv => whnf); refine And.intro ?_ ?_) | exact Nat.le_of_ble_eq_true (Eq.refl true) | exact ⟨_, _, Eq.refl _, Eq.refl _⟩ | fail))) <;> (try conv => whnf))
theorem iFrom_fn (g : Gr) (a : Int) (h : g.2.1.length ≤ 1048576) : Fn Try.prog 53 true (.cons (GrA g) (.cons (.I a) .nil)) [] (.os (rt 16)) [(16, .row 3 (.ints .i64 (eFrom g a)))] := by
  (refine Fn_of tysOk Try.func53 rfl rfl (by simp [AV.len, Try.f53]) ⟨?_⟩; conv => whnf)
  (repeat' first | ((with_reducible show ∃ _ : Bool, _); first | (refine ⟨_, [], _, [], _, _, edgesF_fn g a h, rfl, trivial, ?_, Nx.mk ?_⟩; (focus (((repeat' ((try conv => whnf); (first | exact trivial | exact Eq.refl _ | exact Or.inl (Eq.refl _) | refine And.intro ?_ ?_ | exact fun _ _ _ _ => Eq.refl _ | refine cellJ (fun _ _ => ?_) | (refine cellB ?_; (conv => whnf); refine And.intro ?_ ?_) | exact Nat.le_of_ble_eq_true (Eq.refl true) | exact ⟨_, _, Eq.refl _, Eq.refl _⟩ | fail))) <;> (try conv => whnf)); done)); conv => whnf))  | (refine splitD (fun hs => Nx.mk ?_) (fun hs => Nx.mk ?_) <;> ((try simp only [Ct.len] at hs); revert hs; intro _; conv => whnf)) | (refine splitB (fun _ => Nx.mk ?_) (fun _ => Nx.mk ?_) <;> conv => whnf) | (refine idxNat (by (first | exact trivial | assumption | omega | (simp only [inK, lenR] at *; omega) | (simp; done) | fail)) (Nx.mk ?_); conv => whnf) | (refine idxPred (by omega) (by (first | exact trivial | assumption | omega | (simp only [inK, lenR] at *; omega) | (simp; done) | fail)) (Nx.mk ?_); conv => whnf) | (refine idxSucc (by (first | exact trivial | assumption | omega | (simp only [inK, lenR] at *; omega) | (simp; done) | fail)) (Nx.mk ?_); conv => whnf) | (refine idxTo (by omega) (by (first | exact trivial | assumption | omega | (simp only [inK, lenR] at *; omega) | (simp; done) | fail)) (Nx.mk ?_); conv => whnf) | (refine mkNat (by omega) (by omega) (Nx.mk ?_); conv => whnf) | (refine ar64 (by omega) (Nx.mk ?_); conv => whnf) | (refine ar_in (by (first | exact trivial | assumption | omega | (simp only [inK, lenR] at *; omega) | (simp; done) | fail)) (Nx.mk ?_); conv => whnf) | (refine nilQ (fun _ => Nx.mk ?_) (Nx.mk ?_) <;> conv => whnf) | (refine condN Try.underlying4 (Nx.mk ?_); conv => whnf) | (refine condN (by (first | exact trivial | assumption | omega | (simp only [inK, lenR] at *; omega) | (simp; done) | fail)) (Nx.mk ?_); conv => whnf) | (refine Nx.mk ?_; conv => whnf))
  refine ⟨[(16, nm 7)], rfl, ?_, ?_, ?_, fun _ => ?_⟩
  · ((try conv => whnf); refine ⟨rfl, by rfl, ?_, ?_⟩ <;> ((repeat' ((try conv => whnf); (first | exact trivial | exact Eq.refl _ | exact Or.inl (Eq.refl _) | refine And.intro ?_ ?_ | exact fun _ _ _ _ => Eq.refl _ | refine cellJ (fun _ _ => ?_) | (refine cellB ?_; (conv => whnf); refine And.intro ?_ ?_) | exact Nat.le_of_ble_eq_true (Eq.refl true) | exact ⟨_, _, Eq.refl _, Eq.refl _⟩ | fail))) <;> (try conv => whnf)))
  all_goals ((repeat' ((try conv => whnf); (first | exact trivial | exact Eq.refl _ | exact Or.inl (Eq.refl _) | refine And.intro ?_ ?_ | exact fun _ _ _ _ => Eq.refl _ | refine cellJ (fun _ _ => ?_) | (refine cellB ?_; (conv => whnf); refine And.intro ?_ ?_) | exact Nat.le_of_ble_eq_true (Eq.refl true) | exact ⟨_, _, Eq.refl _, Eq.refl _⟩ | fail))) <;> (try conv => whnf))
attribute [local irreducible] costs chp chpL chpP cch eFrom tgt pprice priOk
end Go.Proofs.Ytmnbpamaiboghaa
