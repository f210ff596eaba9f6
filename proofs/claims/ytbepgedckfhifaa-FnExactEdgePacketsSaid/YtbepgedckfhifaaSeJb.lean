/-
  Vectors over the field, of both: sums, multiples, leading places, inverses, unit vectors, drawn vectors, combinations.
-/
import Derived.Test.YtbepgedckfhifaaSeGb
import Derived.Test.YtbepgedckfhifaaSeGi
import Derived.Test.YtbepgedckfhifaaSeFf
import Derived.Test.YtbepgedckfhifaaSeJp
import Derived.Test.YtbepgedckfhifaaSeIb
namespace Go.Proofs.Ytbepgedckfhifaa
set_option linter.unusedVariables false
set_option linter.unusedSimpArgs false
set_option maxRecDepth 100000
set_option maxHeartbeats 4000000
attribute [local irreducible] Fn
theorem vecB_of {w : Nat} {v : List Int} (h : LA.VecOk w v) (hw : w ≤ 40) : vecB v = true :=
  vecB_iff.2 ⟨fun k hk => by have := h.2 k (by have := h.1; omega); unfold LA.FB at this; omega, by have := h.1; omega⟩
theorem vec_of {v : List Int} (h : VecOk v) : LA.VecOk v.length v := ⟨rfl, fun i hi => by have := h.el i hi; unfold LA.FB; omega⟩
theorem LA.VecOk.at_ {w : Nat} {v : List Int} (h : LA.VecOk w v) {i : Nat} (hi : i < w) : 0 ≤ v.getD i 0 ∧ v.getD i 0 ≤ 1018 := by
  have := h.2 i hi; unfold LA.FB at this; omega
theorem fmul_bd {a b : Int} (ha : 0 ≤ a ∧ a ≤ 1018) (hb : 0 ≤ b ∧ b ≤ 1018) : 0 ≤ a * b ∧ a * b ≤ 1018 * 1018 :=
  ⟨Int.mul_nonneg ha.1 hb.1, Int.le_trans (Int.mul_le_mul_of_nonneg_right ha.2 hb.1) (Int.mul_le_mul_of_nonneg_left hb.2 (by omega))⟩
theorem ftmod {x : Int} (h : 0 ≤ x) : x.tmod 1019 = x % 1019 := Int.tmod_eq_emod_of_nonneg h
theorem take_ap {l : List Int} {i : Nat} {x : Int} (h : i < l.length) (hx : l.getD i 0 = x) : l.take i ++ [x] = l.take (i + 1) := by
  rw [List.take_add_one, List.getElem?_eq_getElem h]
  rw [List.getD_eq_getElem?_getD, List.getElem?_eq_getElem h] at hx
  simp only [Option.getD_some] at hx
  rw [hx]; rfl
/-- The first i numbers of one list, then those of another. -/
def upN (a L : List Int) (i : Nat) : List Int := L.take i ++ a.drop i
theorem upN_zero {a L : List Int} : upN a L 0 = a := by simp [upN]
theorem upN_len {a L : List Int} {i : Nat} (h : L.length = a.length) (hi : i ≤ a.length) : (upN a L i).length = a.length := by simp [upN]; omega
theorem upN_all {a L : List Int} (h : L.length = a.length) : upN a L a.length = L := by
  unfold upN; rw [List.drop_eq_nil_of_le (Nat.le_refl _), List.append_nil, List.take_of_length_le (by omega)]
theorem upN_at {a L : List Int} {i : Nat} (h : L.length = a.length) (hi : i < a.length) : (upN a L i).getD i 0 = a.getD i 0 := by
  unfold upN
  rw [List.getD_eq_getElem?_getD, List.getD_eq_getElem?_getD, List.getElem?_append_right (by simp; omega)]
  have : (L.take i).length = i := by simp; omega
  rw [this, Nat.sub_self, List.getElem?_drop, Nat.add_zero]
theorem upN_set {a L : List Int} {i : Nat} {x : Int} (h : L.length = a.length) (hi : i < a.length) (hx : L.getD i 0 = x) : (upN a L i).set i x = upN a L (i + 1) := by
  unfold upN
  have hl : (L.take i).length = i := by simp; omega
  rw [List.set_append_right _ _ (by omega), hl, Nat.sub_self, List.drop_eq_getElem_cons hi, List.set_cons_zero, ← take_ap (l := L) (x := x) (by omega) hx, List.append_assoc]
  rfl
theorem addS_len {a b : List Int} {k : Int} : (LA.addS a b k).length = a.length := by simp [LA.addS]
theorem addS_at {a b : List Int} {k : Int} {i : Nat} (h : i < a.length) : (LA.addS a b k).getD i 0 = (a.getD i 0 + k * b.getD i 0) % 1019 := LA.getD_range h
/-- The first place that is not zero, or -1. -/
def lix (v : List Int) : Int := if LA.lead v < v.length then (LA.lead v : Int) else -1
attribute [local irreducible] LA.addS LA.sclS LA.lead upN lix khash vecB
theorem iAddS_fn {w : Nat} (a b : List Int) (k : Int) (ha : LA.VecOk w a) (hb : LA.VecOk w b) (hw : w ≤ 40) (hk : 0 ≤ k ∧ k ≤ 1018) : Fn Try.prog 106 true (.cons (.os (rt 0)) (.cons (.ri false .i64 b) (.cons (.I k) .nil))) [(0, .row 3 (.ints .i64 a))] (.os (rt 0)) [(0, .row 3 (.ints .i64 (LA.addS a b k)))] := by
  have hal := ha.1
  have hbl := hb.1
  have hL : (LA.addS a b k).length = a.length := addS_len
  (refine Fn_of tysOk Try.func106 rfl rfl (by simp [AV.len, Try.f106]) ⟨?_⟩; conv => whnf)
  (repeat' first | (refine splitD (fun hs => Nx.mk ?_) (fun hs => Nx.mk ?_) <;> ((try simp only [Ct.len] at hs); revert hs; intro _; conv => whnf)) | (refine splitB (fun _ => Nx.mk ?_) (fun _ => Nx.mk ?_) <;> conv => whnf) | (refine idxNat (by (first | exact trivial | assumption | omega | (simp only [inK, lenR] at *; omega) | (simp; done) | fail)) (Nx.mk ?_); conv => whnf) | (refine idxPred (by omega) (by (first | exact trivial | assumption | omega | (simp only [inK, lenR] at *; omega) | (simp; done) | fail)) (Nx.mk ?_); conv => whnf) | (refine idxSucc (by (first | exact trivial | assumption | omega | (simp only [inK, lenR] at *; omega) | (simp; done) | fail)) (Nx.mk ?_); conv => whnf) | (refine idxTo (by omega) (by (first | exact trivial | assumption | omega | (simp only [inK, lenR] at *; omega) | (simp; done) | fail)) (Nx.mk ?_); conv => whnf) | (refine mkNat (by omega) (by omega) (Nx.mk ?_); conv => whnf) | (refine ar64 (by omega) (Nx.mk ?_); conv => whnf) | (refine ar_in (by (first | exact trivial | assumption | omega | (simp only [inK, lenR] at *; omega) | (simp; done) | fail)) (Nx.mk ?_); conv => whnf) | (refine nilQ (fun _ => Nx.mk ?_) (Nx.mk ?_) <;> conv => whnf) | (refine condN Try.underlying4 (Nx.mk ?_); conv => whnf) | (refine condN (by (first | exact trivial | assumption | omega | (simp only [inK, lenR] at *; omega) | (simp; done) | fail)) (Nx.mk ?_); conv => whnf) | (refine Nx.mk ?_; conv => whnf))
  refine loopI tysOk [] (fun i : Nat => [(11, .I i)]) (fun i => [(0, some (.row 3 (.ints .i64 (upN a (LA.addS a b k) i))))]) (fun i => i ≤ w) (fun i => w - i) 0 (Nat.zero_le _) ?_ ?_
  · ((try conv => whnf); refine ⟨rfl, by rfl, ?_, ?_⟩ <;> ((repeat' ((try conv => whnf); (first | exact trivial | exact Eq.refl _ | exact Or.inl (Eq.refl _) | refine And.intro ?_ ?_ | exact fun _ _ _ _ => Eq.refl _ | refine cellJ (fun _ _ => ?_) | (refine cellB ?_; (conv => whnf); refine And.intro ?_ ?_) | exact Nat.le_of_ble_eq_true (Eq.refl true) | exact ⟨_, _, Eq.refl _, Eq.refl _⟩ | fail))) <;> (try conv => whnf)))
    all_goals exact upN_zero.symm
  · intro i hi
    have hul := upN_len (a := a) (L := LA.addS a b k) (i := i) hL (by omega)
    by_cases hlt : i < w
    · have h1 := ha.at_ hlt
      have h2 := hb.at_ hlt
      have h3 := fmul_bd hk h2
      have h4 := upN_at (a := a) (L := LA.addS a b k) (i := i) hL (by omega)
      have h5 := addS_at (a := a) (b := b) (k := k) (i := i) (by omega)
      have h6 := upN_set (a := a) (L := LA.addS a b k) (i := i) hL (by omega) rfl
      rw [h5] at h6
      have h7 := ftmod (x := a.getD i 0 + k * b.getD i 0) (by omega)
      rw [← h4] at h6 h7 h1
      (repeat' first | (refine splitD (fun hs => Nx.mk ?_) (fun hs => Nx.mk ?_) <;> ((try simp only [Ct.len] at hs); revert hs; intro _; conv => whnf)) | (refine splitB (fun _ => Nx.mk ?_) (fun _ => Nx.mk ?_) <;> conv => whnf) | (refine idxNat (by (first | exact trivial | assumption | omega | (simp only [inK, lenR] at *; omega) | (simp; done) | fail)) (Nx.mk ?_); conv => whnf) | (refine idxPred (by omega) (by (first | exact trivial | assumption | omega | (simp only [inK, lenR] at *; omega) | (simp; done) | fail)) (Nx.mk ?_); conv => whnf) | (refine idxSucc (by (first | exact trivial | assumption | omega | (simp only [inK, lenR] at *; omega) | (simp; done) | fail)) (Nx.mk ?_); conv => whnf) | (refine idxTo (by omega) (by (first | exact trivial | assumption | omega | (simp only [inK, lenR] at *; omega) | (simp; done) | fail)) (Nx.mk ?_); conv => whnf) | (refine mkNat (by omega) (by omega) (Nx.mk ?_); conv => whnf) | (refine ar64 (by omega) (Nx.mk ?_); conv => whnf) | (refine ar_in (by (first | exact trivial | assumption | omega | (simp only [inK, lenR] at *; omega) | (simp; done) | fail)) (Nx.mk ?_); conv => whnf) | (refine nilQ (fun _ => Nx.mk ?_) (Nx.mk ?_) <;> conv => whnf) | (refine condN Try.underlying4 (Nx.mk ?_); conv => whnf) | (refine condN (by (first | exact trivial | assumption | omega | (simp only [inK, lenR] at *; omega) | (simp; done) | fail)) (Nx.mk ?_); conv => whnf) | (refine Nx.mk ?_; conv => whnf))
      (all_goals try first | contradiction | (exfalso; omega))
      refine ⟨i + 1, by omega, by omega, ?_⟩
      ((try conv => whnf); refine ⟨rfl, by rfl, ?_, ?_⟩ <;> ((repeat' ((try conv => whnf); (first | exact trivial | exact Eq.refl _ | exact Or.inl (Eq.refl _) | refine And.intro ?_ ?_ | exact fun _ _ _ _ => Eq.refl _ | refine cellJ (fun _ _ => ?_) | (refine cellB ?_; (conv => whnf); refine And.intro ?_ ?_) | exact Nat.le_of_ble_eq_true (Eq.refl true) | exact ⟨_, _, Eq.refl _, Eq.refl _⟩ | fail))) <;> (try conv => whnf)))
      rw [h7]; exact h6
    · obtain rfl : i = w := by omega
      have h8 : upN a (LA.addS a b k) i = LA.addS a b k := by rw [← hal]; exact upN_all hL
      rw [h8]
      (repeat' first | (refine splitD (fun hs => Nx.mk ?_) (fun hs => Nx.mk ?_) <;> ((try simp only [Ct.len] at hs); revert hs; intro _; conv => whnf)) | (refine splitB (fun _ => Nx.mk ?_) (fun _ => Nx.mk ?_) <;> conv => whnf) | (refine idxNat (by (first | exact trivial | assumption | omega | (simp only [inK, lenR] at *; omega) | (simp; done) | fail)) (Nx.mk ?_); conv => whnf) | (refine idxPred (by omega) (by (first | exact trivial | assumption | omega | (simp only [inK, lenR] at *; omega) | (simp; done) | fail)) (Nx.mk ?_); conv => whnf) | (refine idxSucc (by (first | exact trivial | assumption | omega | (simp only [inK, lenR] at *; omega) | (simp; done) | fail)) (Nx.mk ?_); conv => whnf) | (refine idxTo (by omega) (by (first | exact trivial | assumption | omega | (simp only [inK, lenR] at *; omega) | (simp; done) | fail)) (Nx.mk ?_); conv => whnf) | (refine mkNat (by omega) (by omega) (Nx.mk ?_); conv => whnf) | (refine ar64 (by omega) (Nx.mk ?_); conv => whnf) | (refine ar_in (by (first | exact trivial | assumption | omega | (simp only [inK, lenR] at *; omega) | (simp; done) | fail)) (Nx.mk ?_); conv => whnf) | (refine nilQ (fun _ => Nx.mk ?_) (Nx.mk ?_) <;> conv => whnf) | (refine condN Try.underlying4 (Nx.mk ?_); conv => whnf) | (refine condN (by (first | exact trivial | assumption | omega | (simp only [inK, lenR] at *; omega) | (simp; done) | fail)) (Nx.mk ?_); conv => whnf) | (refine Nx.mk ?_; conv => whnf))
      (all_goals try first | contradiction | (exfalso; omega))
      refine ⟨[], rfl, ?_, ?_, ?_, fun _ => ?_⟩
      · ((try conv => whnf); refine ⟨rfl, by rfl, ?_, ?_⟩ <;> ((repeat' ((try conv => whnf); (first | exact trivial | exact Eq.refl _ | exact Or.inl (Eq.refl _) | refine And.intro ?_ ?_ | exact fun _ _ _ _ => Eq.refl _ | refine cellJ (fun _ _ => ?_) | (refine cellB ?_; (conv => whnf); refine And.intro ?_ ?_) | exact Nat.le_of_ble_eq_true (Eq.refl true) | exact ⟨_, _, Eq.refl _, Eq.refl _⟩ | fail))) <;> (try conv => whnf)))
      all_goals ((repeat' ((try conv => whnf); (first | exact trivial | exact Eq.refl _ | exact Or.inl (Eq.refl _) | refine And.intro ?_ ?_ | exact fun _ _ _ _ => Eq.refl _ | refine cellJ (fun _ _ => ?_) | (refine cellB ?_; (conv => whnf); refine And.intro ?_ ?_) | exact Nat.le_of_ble_eq_true (Eq.refl true) | exact ⟨_, _, Eq.refl _, Eq.refl _⟩ | fail))) <;> (try conv => whnf))
theorem sPair_fn {w : Nat} (a b : List Int) (ha : LA.VecOk w a) (hb : LA.VecOk w b) (hw : w ≤ 40) : Fn Try.prog 125 true (.cons (.ri false .i64 a) (.cons (.ri false .i64 b) .nil)) [] .tt [] := by
  have hal := ha.1
  have hbl := hb.1
  have c1 := (sVec_fn a (by omega)).tt (vecB_of ha hw)
  have c2 := (sVec_fn b (by omega)).tt (vecB_of hb hw)
  (refine Fn_of tysOk Try.func125 rfl rfl (by simp [AV.len, Try.f125]) ⟨?_⟩; conv => whnf)
  (repeat' first | ((with_reducible show ∃ _ : Bool, _); first | (refine ⟨_, [], _, [], _, _, c1, rfl, trivial, ?_, Nx.mk ?_⟩; (focus (((repeat' ((try conv => whnf); (first | exact trivial | exact Eq.refl _ | exact Or.inl (Eq.refl _) | refine And.intro ?_ ?_ | exact fun _ _ _ _ => Eq.refl _ | refine cellJ (fun _ _ => ?_) | (refine cellB ?_; (conv => whnf); refine And.intro ?_ ?_) | exact Nat.le_of_ble_eq_true (Eq.refl true) | exact ⟨_, _, Eq.refl _, Eq.refl _⟩ | fail))) <;> (try conv => whnf)); done)); conv => whnf) | (refine ⟨_, [], _, [], _, _, c2, rfl, trivial, ?_, Nx.mk ?_⟩; (focus (((repeat' ((try conv => whnf); (first | exact trivial | exact Eq.refl _ | exact Or.inl (Eq.refl _) | refine And.intro ?_ ?_ | exact fun _ _ _ _ => Eq.refl _ | refine cellJ (fun _ _ => ?_) | (refine cellB ?_; (conv => whnf); refine And.intro ?_ ?_) | exact Nat.le_of_ble_eq_true (Eq.refl true) | exact ⟨_, _, Eq.refl _, Eq.refl _⟩ | fail))) <;> (try conv => whnf)); done)); conv => whnf))  | (refine splitD (fun hs => Nx.mk ?_) (fun hs => Nx.mk ?_) <;> ((try simp only [Ct.len] at hs); revert hs; intro _; conv => whnf)) | (refine splitB (fun _ => Nx.mk ?_) (fun _ => Nx.mk ?_) <;> conv => whnf) | (refine idxNat (by (first | exact trivial | assumption | omega | (simp only [inK, lenR] at *; omega) | (simp; done) | fail)) (Nx.mk ?_); conv => whnf) | (refine idxPred (by omega) (by (first | exact trivial | assumption | omega | (simp only [inK, lenR] at *; omega) | (simp; done) | fail)) (Nx.mk ?_); conv => whnf) | (refine idxSucc (by (first | exact trivial | assumption | omega | (simp only [inK, lenR] at *; omega) | (simp; done) | fail)) (Nx.mk ?_); conv => whnf) | (refine idxTo (by omega) (by (first | exact trivial | assumption | omega | (simp only [inK, lenR] at *; omega) | (simp; done) | fail)) (Nx.mk ?_); conv => whnf) | (refine mkNat (by omega) (by omega) (Nx.mk ?_); conv => whnf) | (refine ar64 (by omega) (Nx.mk ?_); conv => whnf) | (refine ar_in (by (first | exact trivial | assumption | omega | (simp only [inK, lenR] at *; omega) | (simp; done) | fail)) (Nx.mk ?_); conv => whnf) | (refine nilQ (fun _ => Nx.mk ?_) (Nx.mk ?_) <;> conv => whnf) | (refine condN Try.underlying4 (Nx.mk ?_); conv => whnf) | (refine condN (by (first | exact trivial | assumption | omega | (simp only [inK, lenR] at *; omega) | (simp; done) | fail)) (Nx.mk ?_); conv => whnf) | (refine Nx.mk ?_; conv => whnf))
  (all_goals try first | contradiction | (exfalso; omega))
  all_goals (refine ⟨[], rfl, ⟨rfl, rfl, trivial, trivial⟩, ?_, ⟨?_, trivial⟩, fun _ => ⟨?_, trivial⟩⟩ <;> ((repeat' ((try conv => whnf); (first | exact trivial | exact Eq.refl _ | exact Or.inl (Eq.refl _) | refine And.intro ?_ ?_ | exact fun _ _ _ _ => Eq.refl _ | refine cellJ (fun _ _ => ?_) | (refine cellB ?_; (conv => whnf); refine And.intro ?_ ?_) | exact Nat.le_of_ble_eq_true (Eq.refl true) | exact ⟨_, _, Eq.refl _, Eq.refl _⟩ | fail))) <;> (try conv => whnf)))
theorem sAddS_fn {w : Nat} (a b : List Int) (k : Int) (ha : LA.VecOk w a) (hb : LA.VecOk w b) (hw : w ≤ 40) (hk : 0 ≤ k ∧ k ≤ 1018) : Fn Try.prog 95 true (.cons (.ri false .i64 a) (.cons (.ri false .i64 b) (.cons (.I k) .nil))) [] (.os (rt 16)) [(16, .row 3 (.ints .i64 (LA.addS a b k)))] := by
  have hal := ha.1
  have hbl := hb.1
  have hL : (LA.addS a b k).length = a.length := addS_len
  have c1 := sPair_fn a b ha hb hw
  have c2 := (sEl_fn k).tt (decide_eq_true hk)
  (refine Fn_of tysOk Try.func95 rfl rfl (by simp [AV.len, Try.f95]) ⟨?_⟩; conv => whnf)
  (repeat' first | ((with_reducible show ∃ _ : Bool, _); first | (refine ⟨_, [], _, [], _, _, c1, rfl, trivial, ?_, Nx.mk ?_⟩; (focus (((repeat' ((try conv => whnf); (first | exact trivial | exact Eq.refl _ | exact Or.inl (Eq.refl _) | refine And.intro ?_ ?_ | exact fun _ _ _ _ => Eq.refl _ | refine cellJ (fun _ _ => ?_) | (refine cellB ?_; (conv => whnf); refine And.intro ?_ ?_) | exact Nat.le_of_ble_eq_true (Eq.refl true) | exact ⟨_, _, Eq.refl _, Eq.refl _⟩ | fail))) <;> (try conv => whnf)); done)); conv => whnf) | (refine ⟨_, [], _, [], _, _, c2, rfl, trivial, ?_, Nx.mk ?_⟩; (focus (((repeat' ((try conv => whnf); (first | exact trivial | exact Eq.refl _ | exact Or.inl (Eq.refl _) | refine And.intro ?_ ?_ | exact fun _ _ _ _ => Eq.refl _ | refine cellJ (fun _ _ => ?_) | (refine cellB ?_; (conv => whnf); refine And.intro ?_ ?_) | exact Nat.le_of_ble_eq_true (Eq.refl true) | exact ⟨_, _, Eq.refl _, Eq.refl _⟩ | fail))) <;> (try conv => whnf)); done)); conv => whnf))  | (refine splitD (fun hs => Nx.mk ?_) (fun hs => Nx.mk ?_) <;> ((try simp only [Ct.len] at hs); revert hs; intro _; conv => whnf)) | (refine splitB (fun _ => Nx.mk ?_) (fun _ => Nx.mk ?_) <;> conv => whnf) | (refine idxNat (by (first | exact trivial | assumption | omega | (simp only [inK, lenR] at *; omega) | (simp; done) | fail)) (Nx.mk ?_); conv => whnf) | (refine idxPred (by omega) (by (first | exact trivial | assumption | omega | (simp only [inK, lenR] at *; omega) | (simp; done) | fail)) (Nx.mk ?_); conv => whnf) | (refine idxSucc (by (first | exact trivial | assumption | omega | (simp only [inK, lenR] at *; omega) | (simp; done) | fail)) (Nx.mk ?_); conv => whnf) | (refine idxTo (by omega) (by (first | exact trivial | assumption | omega | (simp only [inK, lenR] at *; omega) | (simp; done) | fail)) (Nx.mk ?_); conv => whnf) | (refine mkNat (by omega) (by omega) (Nx.mk ?_); conv => whnf) | (refine ar64 (by omega) (Nx.mk ?_); conv => whnf) | (refine ar_in (by (first | exact trivial | assumption | omega | (simp only [inK, lenR] at *; omega) | (simp; done) | fail)) (Nx.mk ?_); conv => whnf) | (refine nilQ (fun _ => Nx.mk ?_) (Nx.mk ?_) <;> conv => whnf) | (refine condN Try.underlying4 (Nx.mk ?_); conv => whnf) | (refine condN (by (first | exact trivial | assumption | omega | (simp only [inK, lenR] at *; omega) | (simp; done) | fail)) (Nx.mk ?_); conv => whnf) | (refine Nx.mk ?_; conv => whnf))
  (all_goals try first | contradiction | (exfalso; omega))
  refine loopI tysOk [nm 9] (fun i : Nat => [(7, .os (rt (nm 9))), (8, .I i)]) (fun i => [(nm 9, some (.row 3 (.ints .i64 ((LA.addS a b k).take i))))]) (fun i => i ≤ w) (fun i => w - i) 0 (Nat.zero_le _) ?_ ?_
  · ((try conv => whnf); refine ⟨rfl, by rfl, ?_, ?_⟩ <;> ((repeat' ((try conv => whnf); (first | exact trivial | exact Eq.refl _ | exact Or.inl (Eq.refl _) | refine And.intro ?_ ?_ | exact fun _ _ _ _ => Eq.refl _ | refine cellJ (fun _ _ => ?_) | (refine cellB ?_; (conv => whnf); refine And.intro ?_ ?_) | exact Nat.le_of_ble_eq_true (Eq.refl true) | exact ⟨_, _, Eq.refl _, Eq.refl _⟩ | fail))) <;> (try conv => whnf)))
  · intro i hi
    have htl : ((LA.addS a b k).take i).length = i := by rw [List.length_take]; omega
    by_cases hlt : i < w
    · have h1 := ha.at_ hlt
      have h2 := hb.at_ hlt
      have h3 := fmul_bd h2 hk
      have h5 := addS_at (a := a) (b := b) (k := k) (i := i) (by omega)
      have h7 := ftmod (x := a.getD i 0 + b.getD i 0 * k) (by omega)
      have h6 := take_ap (l := LA.addS a b k) (i := i) (by omega) (h5.trans (by rw [Int.mul_comm k]))
      rw [← h7] at h6
      (repeat' first | ((refine VC_draw (sf := []) tysOk (by kernel_rfl) (by kernel_rfl) (Nx.mk ?_); conv => whnf)) | (refine splitD (fun hs => Nx.mk ?_) (fun hs => Nx.mk ?_) <;> ((try simp only [Ct.len] at hs); revert hs; intro _; conv => whnf)) | (refine splitB (fun _ => Nx.mk ?_) (fun _ => Nx.mk ?_) <;> conv => whnf) | (refine idxNat (by (first | exact trivial | assumption | omega | (simp only [inK, lenR] at *; omega) | (simp; done) | fail)) (Nx.mk ?_); conv => whnf) | (refine idxPred (by omega) (by (first | exact trivial | assumption | omega | (simp only [inK, lenR] at *; omega) | (simp; done) | fail)) (Nx.mk ?_); conv => whnf) | (refine idxSucc (by (first | exact trivial | assumption | omega | (simp only [inK, lenR] at *; omega) | (simp; done) | fail)) (Nx.mk ?_); conv => whnf) | (refine idxTo (by omega) (by (first | exact trivial | assumption | omega | (simp only [inK, lenR] at *; omega) | (simp; done) | fail)) (Nx.mk ?_); conv => whnf) | (refine mkNat (by omega) (by omega) (Nx.mk ?_); conv => whnf) | (refine ar64 (by omega) (Nx.mk ?_); conv => whnf) | (refine ar_in (by (first | exact trivial | assumption | omega | (simp only [inK, lenR] at *; omega) | (simp; done) | fail)) (Nx.mk ?_); conv => whnf) | (refine nilQ (fun _ => Nx.mk ?_) (Nx.mk ?_) <;> conv => whnf) | (refine condN Try.underlying4 (Nx.mk ?_); conv => whnf) | (refine condN (by (first | exact trivial | assumption | omega | (simp only [inK, lenR] at *; omega) | (simp; done) | fail)) (Nx.mk ?_); conv => whnf) | (refine Nx.mk ?_; conv => whnf))
      (all_goals try first | contradiction | (exfalso; omega))
      refine ⟨i + 1, by omega, by omega, ?_⟩
      ((try conv => whnf); refine ⟨rfl, by rfl, ?_, ?_⟩ <;> ((repeat' ((try conv => whnf); (first | exact trivial | exact Eq.refl _ | exact Or.inl (Eq.refl _) | refine And.intro ?_ ?_ | exact fun _ _ _ _ => Eq.refl _ | refine cellJ (fun _ _ => ?_) | (refine cellB ?_; (conv => whnf); refine And.intro ?_ ?_) | exact Nat.le_of_ble_eq_true (Eq.refl true) | exact ⟨_, _, Eq.refl _, Eq.refl _⟩ | fail))) <;> (try conv => whnf)))
      exact h6
    · obtain rfl : i = w := by omega
      have h8 : (LA.addS a b k).take i = LA.addS a b k := List.take_of_length_le (by omega)
      rw [h8]
      (repeat' first | (refine splitD (fun hs => Nx.mk ?_) (fun hs => Nx.mk ?_) <;> ((try simp only [Ct.len] at hs); revert hs; intro _; conv => whnf)) | (refine splitB (fun _ => Nx.mk ?_) (fun _ => Nx.mk ?_) <;> conv => whnf) | (refine idxNat (by (first | exact trivial | assumption | omega | (simp only [inK, lenR] at *; omega) | (simp; done) | fail)) (Nx.mk ?_); conv => whnf) | (refine idxPred (by omega) (by (first | exact trivial | assumption | omega | (simp only [inK, lenR] at *; omega) | (simp; done) | fail)) (Nx.mk ?_); conv => whnf) | (refine idxSucc (by (first | exact trivial | assumption | omega | (simp only [inK, lenR] at *; omega) | (simp; done) | fail)) (Nx.mk ?_); conv => whnf) | (refine idxTo (by omega) (by (first | exact trivial | assumption | omega | (simp only [inK, lenR] at *; omega) | (simp; done) | fail)) (Nx.mk ?_); conv => whnf) | (refine mkNat (by omega) (by omega) (Nx.mk ?_); conv => whnf) | (refine ar64 (by omega) (Nx.mk ?_); conv => whnf) | (refine ar_in (by (first | exact trivial | assumption | omega | (simp only [inK, lenR] at *; omega) | (simp; done) | fail)) (Nx.mk ?_); conv => whnf) | (refine nilQ (fun _ => Nx.mk ?_) (Nx.mk ?_) <;> conv => whnf) | (refine condN Try.underlying4 (Nx.mk ?_); conv => whnf) | (refine condN (by (first | exact trivial | assumption | omega | (simp only [inK, lenR] at *; omega) | (simp; done) | fail)) (Nx.mk ?_); conv => whnf) | (refine Nx.mk ?_; conv => whnf))
      (all_goals try first | contradiction | (exfalso; omega))
      refine ⟨[(16, nm 9)], rfl, ?_, ?_, ?_, fun _ => ?_⟩
      · ((try conv => whnf); refine ⟨rfl, by rfl, ?_, ?_⟩ <;> ((repeat' ((try conv => whnf); (first | exact trivial | exact Eq.refl _ | exact Or.inl (Eq.refl _) | refine And.intro ?_ ?_ | exact fun _ _ _ _ => Eq.refl _ | refine cellJ (fun _ _ => ?_) | (refine cellB ?_; (conv => whnf); refine And.intro ?_ ?_) | exact Nat.le_of_ble_eq_true (Eq.refl true) | exact ⟨_, _, Eq.refl _, Eq.refl _⟩ | fail))) <;> (try conv => whnf)))
      all_goals ((repeat' ((try conv => whnf); (first | exact trivial | exact Eq.refl _ | exact Or.inl (Eq.refl _) | refine And.intro ?_ ?_ | exact fun _ _ _ _ => Eq.refl _ | refine cellJ (fun _ _ => ?_) | (refine cellB ?_; (conv => whnf); refine And.intro ?_ ?_) | exact Nat.le_of_ble_eq_true (Eq.refl true) | exact ⟨_, _, Eq.refl _, Eq.refl _⟩ | fail))) <;> (try conv => whnf))
theorem zeros_ok {w : Nat} : LA.VecOk w (List.replicate w 0) := ⟨by simp, fun i hi => by rw [List.getD_eq_getElem?_getD, List.getElem?_replicate, if_pos hi]; exact ⟨by decide, by decide⟩⟩
/-- The unit vector. -/
def unitL (n i : Nat) : List Int := (List.replicate n 0).set i 1
attribute [local irreducible] unitL
/-- The unit vectors. -/
def idL (n : Nat) : List (List Int) := (List.range n).map (unitL n)
attribute [local irreducible] idL
/-- What is drawn. -/
def rnd (seed : Int) (i : Nat) : Int := khash seed [(i : Int), 71] * khash seed [(i : Int), 71] % 2147483647 % 1019
def rvR (seed : Int) (n : Nat) : List Int := (List.range n).map (rnd seed)
def rvL (seed : Int) (n : Nat) : List Int := if LA.lead (rvR seed n) < (rvR seed n).length then rvR seed n else (rvR seed n).set 0 1
attribute [local irreducible] rnd rvR rvL
end Go.Proofs.Ytbepgedckfhifaa
