/-
  Matrices that are valid; rows reduced, of the reference.
-/
import Derived.Test.YtbepgedckfhifaaGreatFiKe
namespace Go.Proofs.YtbepgedckfhifaaGreat
set_option linter.unusedVariables false
set_option linter.unusedSimpArgs false
set_option maxRecDepth 100000
set_option maxHeartbeats 4000000
attribute [local irreducible] Fn
structure MatOk (xs : List (List Int)) : Prop where
  vec : ∀ i, i < xs.length → VecOk (xs.getD i default) ∧ (xs.getD i default).length = (xs.getD 0 default).length
  len : xs.length ≤ 40
open Classical in
noncomputable def matB (xs : List (List Int)) : Bool := decide (MatOk xs)
theorem matB_iff {xs : List (List Int)} : matB xs = true ↔ MatOk xs := by simp [matB]
theorem matB_true {xs : List (List Int)} (h : MatOk xs) : true = matB xs := (matB_iff.2 h).symm
theorem matB_false {xs : List (List Int)} (h : ¬ MatOk xs) : false = matB xs := by simp [matB, h]
def colN (xs : List (List Int)) : Nat := (xs.getD 0 default).length
theorem colN_nil {xs : List (List Int)} (h : xs.length = 0) : colN xs = 0 := by
  have : xs = [] := List.eq_nil_of_length_eq_zero h
  subst this; rfl
attribute [local irreducible] matB vecB colN
theorem colN_eq {xs : List (List Int)} : colN xs = (xs.getD 0 default).length := by with_unfolding_all rfl
theorem sCol_fn (xs : List (List Int)) (h : xs.length ≤ 1048576) : Fn Tryz.prog 208 true (.cons (.rs false xs.length 1 (cellsA ints_R_i64 xs)) .nil) [] (.I (colN xs)) [] := by
  (refine Fn_of tysOk Tryz.func208 rfl rfl (by simp [AV.len, Tryz.f208]) ⟨?_⟩; conv => whnf)
  (repeat' first | (refine zK (fun hs => ?_) (fun hs => ?_) <;> ((try simp only [Ct.len] at hs); revert hs; intro _; conv => whnf)) | (refine zI (fun _ => ?_) (fun _ => ?_)<;> conv => whnf)|((first|refine zA ?_|refine zB ?_|refine zC ?_|refine zD ?_|refine zE ?_|refine zF ?_|refine zG ?_|fail); conv => whnf)|(refine zJ (fun _ => ?_) ?_<;> conv => whnf)|((first | refine condN Tryz.underlying4 (Nx.mk ?_) | refine zH ?_ | refine Nx.mk ?_); conv => whnf))
  · (refine ⟨[], rfl, ⟨rfl, rfl, trivial, trivial⟩, ?_, ⟨?_, trivial⟩, fun _ => ⟨?_, trivial⟩⟩ <;> ((repeat' ((try conv => whnf); (first|exact zU|refine And.intro ?_ ?_|exact fun _ _ _ _ => Eq.refl _|refine cellJ (fun _ _ => ?_)|(refine cellB ?_; (conv => whnf); refine And.intro ?_ ?_)|exact zV|fail))) <;> (try conv => whnf)))
    rw [colN_nil (by omega)]; rfl
  · (refine ⟨[], rfl, ⟨rfl, rfl, trivial, trivial⟩, ?_, ⟨?_, trivial⟩, fun _ => ⟨?_, trivial⟩⟩ <;> ((repeat' ((try conv => whnf); (first|exact zU|refine And.intro ?_ ?_|exact fun _ _ _ _ => Eq.refl _|refine cellJ (fun _ _ => ?_)|(refine cellB ?_; (conv => whnf); refine And.intro ?_ ?_)|exact zV|fail))) <;> (try conv => whnf)))
    rw [colN_eq]
theorem sMat_fn (xs : List (List Int)) (h : xs.length ≤ 1048576) (hx : ∀ i, i < xs.length → (xs.getD i default).length ≤ 1048576) : Fn Tryz.prog 197 true (.cons (.rs false xs.length 1 (cellsA ints_R_i64 xs)) .nil) [] (.b (matB xs)) [] := by
  (refine Fn_of tysOk Tryz.func197 rfl rfl (by simp [AV.len, Tryz.f197]) ⟨?_⟩; conv => whnf)
  (repeat' first | (refine zK (fun hs => ?_) (fun hs => ?_) <;> ((try simp only [Ct.len] at hs); revert hs; intro _; conv => whnf)) | (refine zI (fun _ => ?_) (fun _ => ?_)<;> conv => whnf)|((first|refine zA ?_|refine zB ?_|refine zC ?_|refine zD ?_|refine zE ?_|refine zF ?_|refine zG ?_|fail); conv => whnf)|(refine zJ (fun _ => ?_) ?_<;> conv => whnf)|((first | refine condN Tryz.underlying4 (Nx.mk ?_) | refine zH ?_ | refine Nx.mk ?_); conv => whnf))
  refine loopI tysOk [] (fun i : Nat => [(3, .I i)]) (fun i => []) (fun i => i ≤ xs.length ∧ ∀ k, k < i → VecOk (xs.getD k default) ∧ (xs.getD k default).length = (xs.getD 0 default).length) (fun i => xs.length - i) 0 ⟨Nat.zero_le _, fun k hk => absurd hk (by omega)⟩ ?_ ?_
  · ((try conv => whnf); refine ⟨rfl, by rfl, ?_, ?_⟩ <;> ((repeat' ((try conv => whnf); (first|exact zU|refine And.intro ?_ ?_|exact fun _ _ _ _ => Eq.refl _|refine cellJ (fun _ _ => ?_)|(refine cellB ?_; (conv => whnf); refine And.intro ?_ ?_)|exact zV|fail))) <;> (try conv => whnf)))
  · rintro i ⟨hi, hall⟩
    by_cases hlt : i < xs.length
    · have hi0 : 0 < xs.length := by omega
      (repeat' first | ((with_reducible show ∃ _ : Bool, _); first | (refine ⟨_, [], _, [], _, _, sVec_fn (xs.getD i default) (hx i hlt), rfl, trivial, zW, Nx.mk ?_⟩; conv => whnf)) | ((refine VC_draw (sf := []) tysOk (by kernel_rfl) (by kernel_rfl) (Nx.mk ?_); conv => whnf)) | (refine zK (fun hs => ?_) (fun hs => ?_) <;> ((try simp only [Ct.len] at hs); revert hs; intro _; conv => whnf)) | (refine zI (fun _ => ?_) (fun _ => ?_)<;> conv => whnf)|((first|refine zA ?_|refine zB ?_|refine zC ?_|refine zD ?_|refine zE ?_|refine zF ?_|refine zG ?_|fail); conv => whnf)|(refine zJ (fun _ => ?_) ?_<;> conv => whnf)|((first | refine condN Tryz.underlying4 (Nx.mk ?_) | refine zH ?_ | refine Nx.mk ?_); conv => whnf))
      all_goals first
        | (exfalso; omega)
        | (refine ⟨i + 1, ⟨by omega, fun k hk => ?_⟩, by omega, ?_⟩
           · by_cases e : k = i
             · subst e; exact ⟨vecB_iff.1 (by assumption), by omega⟩
             · exact hall k (by omega)
           · ((try conv => whnf); refine ⟨rfl, by rfl, ?_, ?_⟩ <;> ((repeat' ((try conv => whnf); (first|exact zU|refine And.intro ?_ ?_|exact fun _ _ _ _ => Eq.refl _|refine cellJ (fun _ _ => ?_)|(refine cellB ?_; (conv => whnf); refine And.intro ?_ ?_)|exact zV|fail))) <;> (try conv => whnf)))
           done)
        | ((refine ⟨[], rfl, ⟨rfl, rfl, trivial, trivial⟩, ?_, ⟨?_, trivial⟩, fun _ => ⟨?_, trivial⟩⟩ <;> ((repeat' ((try conv => whnf); (first|exact zU|refine And.intro ?_ ?_|exact fun _ _ _ _ => Eq.refl _|refine cellJ (fun _ _ => ?_)|(refine cellB ?_; (conv => whnf); refine And.intro ?_ ?_)|exact zV|fail))) <;> (try conv => whnf)))
           refine matB_false (fun hq => ?_)
           have h7 := vecB_iff.2 (hq.vec i hlt).1
           have h8 := (hq.vec i hlt).2
           first | omega | (rename_i hb; rw [h7] at hb; cases hb) | (simp_all; done))
    · obtain rfl : i = xs.length := by omega
      (repeat' first | (refine zK (fun hs => ?_) (fun hs => ?_) <;> ((try simp only [Ct.len] at hs); revert hs; intro _; conv => whnf)) | (refine zI (fun _ => ?_) (fun _ => ?_)<;> conv => whnf)|((first|refine zA ?_|refine zB ?_|refine zC ?_|refine zD ?_|refine zE ?_|refine zF ?_|refine zG ?_|fail); conv => whnf)|(refine zJ (fun _ => ?_) ?_<;> conv => whnf)|((first | refine condN Tryz.underlying4 (Nx.mk ?_) | refine zH ?_ | refine Nx.mk ?_); conv => whnf))
      (all_goals try first | contradiction | (exfalso; omega))
      all_goals first
        | ((refine ⟨[], rfl, ⟨rfl, rfl, trivial, trivial⟩, ?_, ⟨?_, trivial⟩, fun _ => ⟨?_, trivial⟩⟩ <;> ((repeat' ((try conv => whnf); (first|exact zU|refine And.intro ?_ ?_|exact fun _ _ _ _ => Eq.refl _|refine cellJ (fun _ _ => ?_)|(refine cellB ?_; (conv => whnf); refine And.intro ?_ ?_)|exact zV|fail))) <;> (try conv => whnf))); exact matB_true ⟨hall, by omega⟩)
        | ((refine ⟨[], rfl, ⟨rfl, rfl, trivial, trivial⟩, ?_, ⟨?_, trivial⟩, fun _ => ⟨?_, trivial⟩⟩ <;> ((repeat' ((try conv => whnf); (first|exact zU|refine And.intro ?_ ?_|exact fun _ _ _ _ => Eq.refl _|refine cellJ (fun _ _ => ?_)|(refine cellB ?_; (conv => whnf); refine And.intro ?_ ?_)|exact zV|fail))) <;> (try conv => whnf))); exact matB_false (fun hq => by have := hq.len; omega))
/-! ### rows reduced -/
theorem elim_facts {w : Nat} {m : List (List Int)} (ho : ∀ i, i < m.length → LA.VecOk w (m.getD i default)) {k : Nat} (hk : k ≤ w) : (LA.elim m k).1.length = m.length ∧ (LA.elim m k).2 ≤ m.length ∧ ∀ i, i < m.length → LA.VecOk w ((LA.elim m k).1.getD i default) := by
  rcases LA.elim_ok ho k hk with ⟨piv, h⟩ | ⟨_, k', _, piv, h⟩
  · exact ⟨h.len, h.ech.le, h.ok⟩
  · exact ⟨h.len, h.ech.le, h.ok⟩
theorem elim_zero {m : List (List Int)} : LA.elim m 0 = (m, 0) := rfl
theorem elim_skip {m R : List (List Int)} {k a : Nat} (h : LA.elim m k = (R, a)) (h2 : ¬ (a < R.length ∧ LA.pivAt R k (R.length - a) a < R.length)) : LA.elim m (k + 1) = (R, a) := by
  show LA.elimS (LA.elim m k) k = _
  rw [h]
  exact if_neg h2
theorem elim_step {m R : List (List Int)} {k a p : Nat} (h : LA.elim m k = (R, a)) (ha : a < R.length) (hp : p < R.length) (he : LA.pivAt R k (R.length - a) a = p) : LA.elim m (k + 1) = (LA.stepL R a p k, a + 1) := by
  show LA.elimS (LA.elim m k) k = _
  rw [h]
  subst he
  exact if_pos ⟨ha, hp⟩
theorem elim_stop {m R : List (List Int)} {k a : Nat} (h : LA.elim m k = (R, a)) (h2 : R.length ≤ a) : ∀ j, LA.elim m (k + j) = (R, a)
  | 0 => h
  | j + 1 => elim_skip (elim_stop h h2 j) (fun hh => (fun (h3 : a < R.length) => Nat.lt_irrefl a (Nat.lt_of_lt_of_le h3 h2)) hh.1)
theorem redL_len {w : Nat} {m R : List (List Int)} {a : Nat} (h : LA.elim m w = (R, a)) (ha : a ≤ R.length) : (LA.redL m w).length = a := by
  unfold LA.redL; rw [h, List.length_take]; show min a R.length = a; omega
theorem redL_at {w : Nat} {m R : List (List Int)} {a i : Nat} (h : LA.elim m w = (R, a)) (hi : i < a) : (LA.redL m w).getD i default = R.getD i default := by
  unfold LA.redL
  rw [h, List.getD_eq_getElem?_getD, List.getElem?_take, if_pos hi, ← List.getD_eq_getElem?_getD]
def offN (U : List (List Int)) (e : List Int) (a k i : Nat) : List (List Int) := (List.range U.length).map fun j => if j < i then LA.offR U e a k j else U.getD j []
theorem offN_at {U : List (List Int)} {e : List Int} {a k i j : Nat} (hj : j < U.length) : (offN U e a k i).getD j default = if j < i then LA.offR U e a k j else U.getD j default := by
  simp [offN, List.getD_eq_getElem?_getD, hj]
theorem offN_zero {U : List (List Int)} {e : List Int} {a k : Nat} : offN U e a k 0 = U := by
  apply List.ext_getElem (by simp [offN])
  intro i h1 h2
  simp [offN, List.getD_eq_getElem?_getD, h2]
theorem upR_len {R : List (List Int)} {a p k : Nat} : (LA.upR R a p k).length = R.length := by simp [LA.upR]
theorem offN_all {R : List (List Int)} {a p k : Nat} : offN (LA.upR R a p k) (LA.upE R p k) a k R.length = LA.stepL R a p k := by
  unfold offN LA.stepL
  rw [upR_len]
  refine List.map_congr_left (fun j hj => ?_)
  rw [if_pos (List.mem_range.1 hj)]
theorem off_keep {U : List (List Int)} {e : List Int} {a k i j : Nat} (h : i = a ∨ (U.getD i default).getD k 0 = 0) (hj : j < U.length) : (offN U e a k (i + 1)).getD j default = (offN U e a k i).getD j default := by
  rw [offN_at hj, offN_at hj]
  by_cases e1 : j < i
  · rw [if_pos e1, if_pos (by omega)]
  · rw [if_neg e1]
    by_cases e2 : j = i
    · rw [if_pos (by omega), e2]
      unfold LA.offR
      exact if_neg (fun hh => h.elim hh.1 hh.2)
    · rw [if_neg (by omega)]
theorem off_put {U : List (List Int)} {e : List Int} {a k i : Nat} (h1 : i ≠ a) (h2 : ¬ (U.getD i default).getD k 0 = 0) (hi : i < U.length) : (offN U e a k (i + 1)).getD i default = LA.addS (U.getD i default) e (1019 - (U.getD i default).getD k 0) := by
  rw [offN_at hi, if_pos (by omega)]
  unfold LA.offR
  exact if_pos ⟨h1, h2⟩
theorem off_old {U : List (List Int)} {e : List Int} {a k i j : Nat} (h : j ≠ i) (hj : j < U.length) : (offN U e a k (i + 1)).getD j default = (offN U e a k i).getD j default := by
  rw [offN_at hj, offN_at hj]
  by_cases e1 : j < i
  · rw [if_pos e1, if_pos (by omega)]
  · rw [if_neg e1, if_neg (by omega)]
theorem off_now {U : List (List Int)} {e : List Int} {a k i : Nat} (hi : i < U.length) : (offN U e a k i).getD i default = U.getD i default := by
  rw [offN_at hi, if_neg (by omega)]
theorem off_pv {U : List (List Int)} {e : List Int} {a k i : Nat} (ha : a < U.length) : (offN U e a k i).getD a default = U.getD a default := by
  rw [offN_at ha]
  split
  · unfold LA.offR; exact if_neg (fun hh => hh.1 rfl)
  · rfl
theorem upR_ok {w : Nat} {R : List (List Int)} {a p k : Nat} (ha : a < R.length) (hp : p < R.length) (ho : ∀ i, i < R.length → LA.VecOk w (R.getD i default)) {i : Nat} (hi : i < R.length) : LA.VecOk w ((LA.upR R a p k).getD i default) := by
  show LA.VecOk w ((LA.upR R a p k).getD i [])
  rw [LA.upR_at ha hp]
  split
  · exact LA.sclS_ok (ho p hp).1
  · split
    · exact ho a ha
    · exact ho i hi
theorem upE_eq {R : List (List Int)} {p k : Nat} : LA.upE R p k = LA.sclS (R.getD p default) (LA.invI ((R.getD p default).getD k 0)) := rfl
theorem bif_sub {z : Bool} {x y : AV} (hx : x.sub = none) (hy : y.sub = none) : ((bif z then x else y).sub.isSome || false) = false := by
  cases z <;> simp [hx, hy]
attribute [local irreducible] LA.elim LA.upR LA.upE LA.stepL LA.pivAt offN LA.redL LA.offR LA.addS LA.sclS
theorem sRed_fn {w : Nat} (m : List (List Int)) (hm : m.length ≤ 1048576) (hw : w ≤ 40) (ho : ∀ i, i < m.length → LA.VecOk w (m.getD i default)) : Fn Tryz.prog 189 true (.cons (.rs false m.length 1 (cellsA ints_R_i64 m)) (.cons (.I w) .nil)) [] (.os (rt 16)) [(16, .row 22 (.tab (LA.redL m w).length 1 (cellsA ints_T_i64 (LA.redL m w))))] := by
  have cc := (sCopy_fn m hm (fun i hi => by have := (ho i hi).1; omega)).fzK (fun N h => h.symm)
  have hf := fun k (hk : k ≤ w) => elim_facts ho hk
  (refine Fn_of tysOk Tryz.func189 rfl rfl (by simp [AV.len, Tryz.f189]) ⟨?_⟩; conv => whnf)
  (repeat' first | ((with_reducible show ∃ _ : Bool, _); first | (refine ⟨_, [], _, [], _, _, cc, rfl, trivial, zW, Nx.mk ?_⟩; conv => whnf))  | (refine zK (fun hs => ?_) (fun hs => ?_) <;> ((try simp only [Ct.len] at hs); revert hs; intro _; conv => whnf)) | (refine zI (fun _ => ?_) (fun _ => ?_)<;> conv => whnf)|((first|refine zA ?_|refine zB ?_|refine zC ?_|refine zD ?_|refine zE ?_|refine zF ?_|refine zG ?_|fail); conv => whnf)|(refine zJ (fun _ => ?_) ?_<;> conv => whnf)|((first | refine condN Tryz.underlying4 (Nx.mk ?_) | refine zH ?_ | refine Nx.mk ?_); conv => whnf))
  (all_goals try first | contradiction | (exfalso; omega))
  refine loopI tysOk [] (fun k : Nat => [(5, .os (rt (nm 12))), (6, .I (LA.elim m k).2), (7, .I k)]) (fun k => [(nm 12, some (.row 22 (.tab (LA.elim m k).1.length 1 (cellsA ints_T_i64 (LA.elim m k).1))))]) (fun k => k ≤ w) (fun k => w - k) 0 (Nat.zero_le _) ?_ ?_
  · ((try conv => whnf); refine ⟨rfl, by rfl, ?_, ?_⟩ <;> ((repeat' ((try conv => whnf); (first|exact zU|refine And.intro ?_ ?_|exact fun _ _ _ _ => Eq.refl _|refine cellJ (fun _ _ => ?_)|(refine cellB ?_; (conv => whnf); refine And.intro ?_ ?_)|exact zV|fail))) <;> (try conv => whnf)))
    all_goals first | omega | exact .inr rfl | (simp only [elim_zero]; done) | (rw [elim_zero]; rfl)
  intro k hk
  obtain ⟨f1, f2, f3⟩ := hf k hk
  have hst := fun (a : Nat) (R : List (List Int)) (h : LA.elim m k = (R, a)) (h2 : R.length ≤ a) => elim_stop h h2 (w - k)
  rw [show k + (w - k) = w by omega] at hst
  generalize hE : LA.elim m k = E at *
  obtain ⟨R, a⟩ := E
  dsimp only at f1 f2 f3 ⊢
  have fin : LA.elim m w = (R, a) → (LA.redL m w).length = a ∧ ∀ i, i < a → (LA.redL m w).getD i default = R.getD i default := fun h => ⟨redL_len h (by omega), fun i hi => redL_at h hi⟩
  by_cases hlt : k < w
  · by_cases ha : a < R.length
    · (repeat' first  | (refine zK (fun hs => ?_) (fun hs => ?_) <;> ((try simp only [Ct.len] at hs); revert hs; intro _; conv => whnf)) | (refine zI (fun _ => ?_) (fun _ => ?_)<;> conv => whnf)|((first|refine zA ?_|refine zB ?_|refine zC ?_|refine zD ?_|refine zE ?_|refine zF ?_|refine zG ?_|fail); conv => whnf)|(refine zJ (fun _ => ?_) ?_<;> conv => whnf)|((first | refine condN Tryz.underlying4 (Nx.mk ?_) | refine zH ?_ | refine Nx.mk ?_); conv => whnf))
      (all_goals try first | contradiction | (exfalso; omega))
      refine loopI tysOk [] (fun p : Nat => [(8, .I p)]) (fun p => []) (fun p => a ≤ p ∧ p ≤ R.length ∧ ∀ i, a ≤ i → i < p → (R.getD i []).getD k 0 = 0) (fun p => R.length - p) a ⟨Nat.le_refl _, by omega, fun i h1 h2 => absurd h2 (by omega)⟩ ?_ ?_
      · ((try conv => whnf); refine ⟨rfl, by rfl, ?_, ?_⟩ <;> ((repeat' ((try conv => whnf); (first|exact zU|refine And.intro ?_ ?_|exact fun _ _ _ _ => Eq.refl _|refine cellJ (fun _ _ => ?_)|(refine cellB ?_; (conv => whnf); refine And.intro ?_ ?_)|exact zV|fail))) <;> (try conv => whnf)))
        all_goals exact .inr rfl
      rintro p ⟨p1, p2, p3⟩
      by_cases hp : p < R.length
      · have hvp := f3 p (by omega)
        have hvl := hvp.1
        have hk1 : k < (R.getD p default).length := by omega
        by_cases h0 : (R.getD p default).getD k 0 = 0
        · (repeat' first  | (refine zK (fun hs => ?_) (fun hs => ?_) <;> ((try simp only [Ct.len] at hs); revert hs; intro _; conv => whnf)) | (refine zI (fun _ => ?_) (fun _ => ?_)<;> conv => whnf)|((first|refine zA ?_|refine zB ?_|refine zC ?_|refine zD ?_|refine zE ?_|refine zF ?_|refine zG ?_|fail); conv => whnf)|(refine zJ (fun _ => ?_) ?_<;> conv => whnf)|((first | refine condN Tryz.underlying4 (Nx.mk ?_) | refine zH ?_ | refine Nx.mk ?_); conv => whnf))
          (all_goals try first | contradiction | (exfalso; omega))
          refine ⟨p + 1, ⟨by omega, by omega, fun i h1 h2 => ?_⟩, by omega, ?_⟩
          · by_cases e : i = p
            · rw [e]; exact h0
            · exact p3 i h1 (by omega)
          · ((try conv => whnf); refine ⟨rfl, by rfl, ?_, ?_⟩ <;> ((repeat' ((try conv => whnf); (first|exact zU|refine And.intro ?_ ?_|exact fun _ _ _ _ => Eq.refl _|refine cellJ (fun _ _ => ?_)|(refine cellB ?_; (conv => whnf); refine And.intro ?_ ?_)|exact zV|fail))) <;> (try conv => whnf)))
            all_goals exact .inr rfl
        · have hpv : LA.pivAt R k (R.length - a) a = p := LA.pivAt_eq (n := R.length - a) p1 (by omega) p3 (fun _ => h0)
          have hs := elim_step hE ha hp hpv
          have hkv := hvp.at_ (i := k) (by omega)
          have ci := sInv_fn ((R.getD p default).getD k 0) hkv h0
          have cs := (sScl_fn (R.getD p default) (LA.invI ((R.getD p default).getD k 0)) hvp hw (invI_bd _)).fzI
          have hue : LA.upE R p k = LA.sclS (R.getD p default) (LA.invI ((R.getD p default).getD k 0)) := upE_eq
          rw [← hue] at cs
          have hul : (LA.upR R a p k).length = R.length := upR_len
          have huo := fun i (hi : i < R.length) => upR_ok (k := k) ha hp (fun i hi => f3 i (by omega)) hi
          have hua := fun i => LA.upR_at (rows := R) (k := k) (i := i) ha hp
          have hall := offN_all (R := R) (a := a) (p := p) (k := k)
          (repeat' first | ((with_reducible show ∃ _ : Bool, _); first | (refine ⟨_, [], _, [], _, _, ci, rfl, trivial, zW, Nx.mk ?_⟩; conv => whnf)|(refine ⟨_, [], _, [], _, _, cs, rfl, trivial, zW, Nx.mk ?_⟩; conv => whnf))  | (refine zK (fun hs => ?_) (fun hs => ?_) <;> ((try simp only [Ct.len] at hs); revert hs; intro _; conv => whnf)) | (refine zI (fun _ => ?_) (fun _ => ?_)<;> conv => whnf)|((first|refine zA ?_|refine zB ?_|refine zC ?_|refine zD ?_|refine zE ?_|refine zF ?_|refine zG ?_|fail); conv => whnf)|(refine zJ (fun _ => ?_) ?_<;> conv => whnf)|((first | refine condN Tryz.underlying4 (Nx.mk ?_) | refine zH ?_ | refine Nx.mk ?_); conv => whnf))
          (all_goals try first | contradiction | (exfalso; omega))
          refine stoN (N := rt (nm 12)) (Eq.refl _) (Eq.refl _) (Eq.refl _) ?_ (Eq.refl _) (show a < R.length from ha) (Nx.mk ?_)
          · exact bif_sub (Eq.refl _) (Eq.refl _)
          conv => whnf
          (repeat' first  | (refine zK (fun hs => ?_) (fun hs => ?_) <;> ((try simp only [Ct.len] at hs); revert hs; intro _; conv => whnf)) | (refine zI (fun _ => ?_) (fun _ => ?_)<;> conv => whnf)|((first|refine zA ?_|refine zB ?_|refine zC ?_|refine zD ?_|refine zE ?_|refine zF ?_|refine zG ?_|fail); conv => whnf)|(refine zJ (fun _ => ?_) ?_<;> conv => whnf)|((first | refine condN Tryz.underlying4 (Nx.mk ?_) | refine zH ?_ | refine Nx.mk ?_); conv => whnf))
          generalize hU : LA.upR R a p k = U at *
          generalize LA.upE R p k = e at *
          refine loopI tysOk [] (fun i : Nat => [(10, .I i)]) (fun i => [(nm 12, some (.row 22 (.tab R.length 1 (cellsA ints_T_i64 (offN U e a k i)))))]) (fun i => i ≤ R.length) (fun i => R.length - i) 0 (Nat.zero_le _) ?_ ?_
          · ((try conv => whnf); refine ⟨rfl, by rfl, ?_, ?_⟩ <;> ((repeat' ((try conv => whnf); (first|exact zU|refine And.intro ?_ ?_|exact fun _ _ _ _ => Eq.refl _|refine cellJ (fun _ _ => ?_)|(refine cellB ?_; (conv => whnf); refine And.intro ?_ ?_)|exact zV|fail))) <;> (try conv => whnf)))
            all_goals first
              | exact .inr rfl
              | omega
              | (rename_i x hx
                 have hx : x < R.length := hx
                 have h7 := hua x
                 by_cases e1 : x = a
                 · rw [if_pos e1, e1] at h7
                   simp only [e1, Nat.beq_refl, Bool.and_true, cond_true, Ct.cell, offN_zero, cellsA]
                   ((repeat' ((try conv => whnf); (first|exact zU|refine And.intro ?_ ?_|exact fun _ _ _ _ => Eq.refl _|refine cellJ (fun _ _ => ?_)|(refine cellB ?_; (conv => whnf); refine And.intro ?_ ?_)|exact zV|fail))) <;> (try conv => whnf))
                   all_goals first | exact .inr rfl | exact h7.symm
                 · rw [if_neg e1] at h7
                   by_cases e2 : x = p
                   · rw [if_pos e2, e2] at h7
                     rw [e2] at e1
                     simp only [e2, beq_ne e1, Nat.beq_refl, Bool.and_true, Bool.and_false, cond_true, cond_false, Ct.cell, offN_zero, cellsA]
                     ((repeat' ((try conv => whnf); (first|exact zU|refine And.intro ?_ ?_|exact fun _ _ _ _ => Eq.refl _|refine cellJ (fun _ _ => ?_)|(refine cellB ?_; (conv => whnf); refine And.intro ?_ ?_)|exact zV|fail))) <;> (try conv => whnf))
                     all_goals first | exact .inr rfl | exact h7.symm
                   · rw [if_neg e2] at h7
                     simp only [beq_ne e1, beq_ne e2, Bool.and_false, cond_false, Ct.cell, offN_zero, cellsA]
                     ((repeat' ((try conv => whnf); (first|exact zU|refine And.intro ?_ ?_|exact fun _ _ _ _ => Eq.refl _|refine cellJ (fun _ _ => ?_)|(refine cellB ?_; (conv => whnf); refine And.intro ?_ ?_)|exact zV|fail))) <;> (try conv => whnf))
                     all_goals first | exact .inr rfl | exact h7.symm)
          intro i hi
          by_cases hil : i < R.length
          · have hn := off_now (U := U) (e := e) (a := a) (k := k) (i := i) (by omega)
            have hp2 := off_pv (U := U) (e := e) (a := a) (k := k) (i := i) (by omega)
            have hio := huo i hil
            have hao := huo a ha
            rw [← hn] at hio
            rw [← hp2] at hao
            have hil2 := hio.1
            have hkl : k < ((offN U e a k i).getD i default).length := by omega
            have hkb := hio.at_ (i := k) (by omega)
            by_cases hx : i = a ∨ ((offN U e a k i).getD i default).getD k 0 = 0
            · have hkeep := fun j (hj : j < U.length) => off_keep (e := e) (a := a) (k := k) (i := i) (hn ▸ hx) hj
              (repeat' first  | (refine zK (fun hs => ?_) (fun hs => ?_) <;> ((try simp only [Ct.len] at hs); revert hs; intro _; conv => whnf)) | (refine zI (fun _ => ?_) (fun _ => ?_)<;> conv => whnf)|((first|refine zA ?_|refine zB ?_|refine zC ?_|refine zD ?_|refine zE ?_|refine zF ?_|refine zG ?_|fail); conv => whnf)|(refine zJ (fun _ => ?_) ?_<;> conv => whnf)|((first | refine condN Tryz.underlying4 (Nx.mk ?_) | refine zH ?_ | refine Nx.mk ?_); conv => whnf))
              (all_goals try first | contradiction | (exfalso; omega))
              all_goals
                refine ⟨i + 1, by omega, by omega, ?_⟩
                ((try conv => whnf); refine ⟨rfl, by rfl, ?_, ?_⟩ <;> ((repeat' ((try conv => whnf); (first|exact zU|refine And.intro ?_ ?_|exact fun _ _ _ _ => Eq.refl _|refine cellJ (fun _ _ => ?_)|(refine cellB ?_; (conv => whnf); refine And.intro ?_ ?_)|exact zV|fail))) <;> (try conv => whnf)))
                all_goals first | exact .inr rfl | (rename_i x hx; exact (hkeep x (by omega)).symm) | trace_state
            · have h1 : i ≠ a := fun h => hx (.inl h)
              have h2 : ¬ ((offN U e a k i).getD i default).getD k 0 = 0 := fun h => hx (.inr h)
              have hue2 : U.getD a default = e := by have h8 := hua a; rw [if_pos rfl] at h8; exact h8
              have hput := off_put (e := e) h1 (hn ▸ h2) (show i < U.length by omega)
              have hold := fun j (hne : j ≠ i) (hj : j < U.length) => off_old (e := e) (a := a) (k := k) hne hj
              have ca := (sAddS_fn ((offN U e a k i).getD i default) ((offN U e a k i).getD a default) (1019 - ((offN U e a k i).getD i default).getD k 0) hio hao hw (by omega)).fzI
              (repeat' first | ((with_reducible show ∃ _ : Bool, _); first | (refine ⟨_, [], _, [], _, _, ca, rfl, trivial, zW, Nx.mk ?_⟩; conv => whnf)) | ((refine VC_draw (sf := []) tysOk (by kernel_rfl) (by kernel_rfl) (Nx.mk ?_); conv => whnf)) | (refine zK (fun hs => ?_) (fun hs => ?_) <;> ((try simp only [Ct.len] at hs); revert hs; intro _; conv => whnf)) | (refine zI (fun _ => ?_) (fun _ => ?_)<;> conv => whnf)|((first|refine zA ?_|refine zB ?_|refine zC ?_|refine zD ?_|refine zE ?_|refine zF ?_|refine zG ?_|fail); conv => whnf)|(refine zJ (fun _ => ?_) ?_<;> conv => whnf)|((first | refine condN Tryz.underlying4 (Nx.mk ?_) | refine zH ?_ | refine Nx.mk ?_); conv => whnf))
              (all_goals try first | contradiction | (exfalso; omega))
              refine ⟨i + 1, by omega, by omega, ?_⟩
              ((try conv => whnf); refine ⟨rfl, by rfl, ?_, ?_⟩ <;> ((repeat' ((try conv => whnf); (first|exact zU|refine And.intro ?_ ?_|exact fun _ _ _ _ => Eq.refl _|refine cellJ (fun _ _ => ?_)|(refine cellB ?_; (conv => whnf); refine And.intro ?_ ?_)|exact zV|fail))) <;> (try conv => whnf)))
              all_goals first
                | exact .inr rfl
                | (rename_i x hx
                   have hx : x < R.length := hx
                   by_cases e1 : x = i
                   · simp only [e1, Nat.beq_refl, Bool.and_true, cond_true, Ct.cell, cellsA]
                     ((repeat' ((try conv => whnf); (first|exact zU|refine And.intro ?_ ?_|exact fun _ _ _ _ => Eq.refl _|refine cellJ (fun _ _ => ?_)|(refine cellB ?_; (conv => whnf); refine And.intro ?_ ?_)|exact zV|fail))) <;> (try conv => whnf))
                     all_goals first | exact .inr rfl | (rw [hput, hn, hp2, hue2]; done)
                   · simp only [beq_ne e1, Bool.and_false, cond_false, Ct.cell, cellsA]
                     ((repeat' ((try conv => whnf); (first|exact zU|refine And.intro ?_ ?_|exact fun _ _ _ _ => Eq.refl _|refine cellJ (fun _ _ => ?_)|(refine cellB ?_; (conv => whnf); refine And.intro ?_ ?_)|exact zV|fail))) <;> (try conv => whnf))
                     all_goals first | exact .inr rfl | exact (hold x e1 (by omega)).symm)
                | trace_state
          · obtain rfl : i = R.length := by omega
            (repeat' first  | (refine zK (fun hs => ?_) (fun hs => ?_) <;> ((try simp only [Ct.len] at hs); revert hs; intro _; conv => whnf)) | (refine zI (fun _ => ?_) (fun _ => ?_)<;> conv => whnf)|((first|refine zA ?_|refine zB ?_|refine zC ?_|refine zD ?_|refine zE ?_|refine zF ?_|refine zG ?_|fail); conv => whnf)|(refine zJ (fun _ => ?_) ?_<;> conv => whnf)|((first | refine condN Tryz.underlying4 (Nx.mk ?_) | refine zH ?_ | refine Nx.mk ?_); conv => whnf))
            (all_goals try first | contradiction | (exfalso; omega))
            rw [hall]
            have hsl : (LA.stepL R a p k).length = R.length := LA.stepL_len
            refine ⟨k + 1, by omega, by omega, ?_⟩
            rw [hs]
            ((try conv => whnf); refine ⟨rfl, by rfl, ?_, ?_⟩ <;> ((repeat' ((try conv => whnf); (first|exact zU|refine And.intro ?_ ?_|exact fun _ _ _ _ => Eq.refl _|refine cellJ (fun _ _ => ?_)|(refine cellB ?_; (conv => whnf); refine And.intro ?_ ?_)|exact zV|fail))) <;> (try conv => whnf)))
            all_goals first | exact .inr rfl | omega | exact hsl.symm | trace_state
      · obtain rfl : p = R.length := by omega
        have hs := elim_skip hE (fun h => by rw [LA.pivAt_eq (n := R.length - a) p1 (by omega) p3 (fun h => absurd h (by omega))] at h; exact absurd h.2 (Nat.lt_irrefl _))
        (repeat' first  | (refine zK (fun hs => ?_) (fun hs => ?_) <;> ((try simp only [Ct.len] at hs); revert hs; intro _; conv => whnf)) | (refine zI (fun _ => ?_) (fun _ => ?_)<;> conv => whnf)|((first|refine zA ?_|refine zB ?_|refine zC ?_|refine zD ?_|refine zE ?_|refine zF ?_|refine zG ?_|fail); conv => whnf)|(refine zJ (fun _ => ?_) ?_<;> conv => whnf)|((first | refine condN Tryz.underlying4 (Nx.mk ?_) | refine zH ?_ | refine Nx.mk ?_); conv => whnf))
        (all_goals try first | contradiction | (exfalso; omega))
        refine ⟨k + 1, by omega, by omega, ?_⟩
        ((try conv => whnf); refine ⟨rfl, by rfl, ?_, ?_⟩ <;> ((repeat' ((try conv => whnf); (first|exact zU|refine And.intro ?_ ?_|exact fun _ _ _ _ => Eq.refl _|refine cellJ (fun _ _ => ?_)|(refine cellB ?_; (conv => whnf); refine And.intro ?_ ?_)|exact zV|fail))) <;> (try conv => whnf)))
        all_goals first | exact .inr rfl | (rw [hs]; done) | (rw [hs]; rfl) | trace_state
    · have h9 := fin (hst a R rfl (by omega))
      (repeat' first | (refine condN (show (0 : Int) ≤ (a : Int) ∧ (a : Int) ≤ (R.length : Nat) by omega) (Nx.mk ?_); conv => whnf)|(refine zK (fun hs => ?_) (fun hs => ?_) <;> ((try simp only [Ct.len] at hs); revert hs; intro _; conv => whnf)) | (refine zI (fun _ => ?_) (fun _ => ?_)<;> conv => whnf)|((first|refine zA ?_|refine zB ?_|refine zC ?_|refine zD ?_|refine zE ?_|refine zF ?_|refine zG ?_|fail); conv => whnf)|(refine zJ (fun _ => ?_) ?_<;> conv => whnf)|((first | refine condN Tryz.underlying4 (Nx.mk ?_) | refine zH ?_ | refine Nx.mk ?_); conv => whnf))
      (all_goals try first | contradiction | (exfalso; omega))
      refine ⟨[(16, nm 12)], rfl, ?_, ?_, ?_, fun _ => ?_⟩
      · ((try conv => whnf); refine ⟨rfl, by rfl, ?_, ?_⟩ <;> ((repeat' ((try conv => whnf); (first|exact zU|refine And.intro ?_ ?_|exact fun _ _ _ _ => Eq.refl _|refine cellJ (fun _ _ => ?_)|(refine cellB ?_; (conv => whnf); refine And.intro ?_ ?_)|exact zV|fail))) <;> (try conv => whnf)))
        all_goals first | (have := h9.1; omega) | exact .inr rfl | (rename_i x hx; exact (h9.2 x (by omega)).symm)
      all_goals ((repeat' ((try conv => whnf); (first|exact zU|refine And.intro ?_ ?_|exact fun _ _ _ _ => Eq.refl _|refine cellJ (fun _ _ => ?_)|(refine cellB ?_; (conv => whnf); refine And.intro ?_ ?_)|exact zV|fail))) <;> (try conv => whnf))
      all_goals first | (have := h9.1; omega) | exact .inr rfl | (rename_i x hx; exact (h9.2 x (by omega)).symm)
  · obtain rfl : k = w := by omega
    have h9 := fin hE
    (repeat' first | (refine condN (show (0 : Int) ≤ (a : Int) ∧ (a : Int) ≤ (R.length : Nat) by omega) (Nx.mk ?_); conv => whnf)|(refine zK (fun hs => ?_) (fun hs => ?_) <;> ((try simp only [Ct.len] at hs); revert hs; intro _; conv => whnf)) | (refine zI (fun _ => ?_) (fun _ => ?_)<;> conv => whnf)|((first|refine zA ?_|refine zB ?_|refine zC ?_|refine zD ?_|refine zE ?_|refine zF ?_|refine zG ?_|fail); conv => whnf)|(refine zJ (fun _ => ?_) ?_<;> conv => whnf)|((first | refine condN Tryz.underlying4 (Nx.mk ?_) | refine zH ?_ | refine Nx.mk ?_); conv => whnf))
    (all_goals try first | contradiction | (exfalso; omega))
    refine ⟨[(16, nm 12)], rfl, ?_, ?_, ?_, fun _ => ?_⟩
    · ((try conv => whnf); refine ⟨rfl, by rfl, ?_, ?_⟩ <;> ((repeat' ((try conv => whnf); (first|exact zU|refine And.intro ?_ ?_|exact fun _ _ _ _ => Eq.refl _|refine cellJ (fun _ _ => ?_)|(refine cellB ?_; (conv => whnf); refine And.intro ?_ ?_)|exact zV|fail))) <;> (try conv => whnf)))
      all_goals first | (have := h9.1; omega) | exact .inr rfl | (rename_i x hx; exact (h9.2 x (by omega)).symm)
    all_goals ((repeat' ((try conv => whnf); (first|exact zU|refine And.intro ?_ ?_|exact fun _ _ _ _ => Eq.refl _|refine cellJ (fun _ _ => ?_)|(refine cellB ?_; (conv => whnf); refine And.intro ?_ ?_)|exact zV|fail))) <;> (try conv => whnf))
    all_goals first | (have := h9.1; omega) | exact .inr rfl | (rename_i x hx; exact (h9.2 x (by omega)).symm)
end Go.Proofs.YtbepgedckfhifaaGreat
