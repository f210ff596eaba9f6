/-
  Vectors over the field, of both: sums, multiples, leading places, inverses, unit vectors, drawn vectors, combinations.
-/
import Derived.Test.YtbepgedckfhifaaGreatFiGb
import Derived.Test.YtbepgedckfhifaaGreatFiGi
import Derived.Test.YtbepgedckfhifaaGreatFiFf
import Derived.Test.YtbepgedckfhifaaGreatFiJp
import Derived.Test.YtbepgedckfhifaaGreatFiIb
namespace Go.Proofs.YtbepgedckfhifaaGreat
set_option linter.unusedVariables false
set_option linter.unusedSimpArgs false
set_option maxRecDepth 100000
set_option maxHeartbeats 4000000
attribute [local irreducible] Fn
theorem vecB_of {w : Nat} {v : List Int} (h : LA.VecOk w v) (hw : w ≤ 40) : vecB v = true :=
  vecB_iff.2 ⟨fun k hk => by have := h.2 k (by have := h.1; omega); unfold LA.FB at this; omega, by have := h.1; omega⟩
theorem vec_of {v : List Int} (h : VecOk v) : LA.VecOk v.length v := ⟨rfl, fun i hi => by have := h.el i hi; unfold LA.FB; omega⟩
theorem LA.VecOk.at_ {w : Nat} {v : List Int} (h : LA.VecOk w v) {i : Nat} (hi : i < w) : 0 ≤ v.getD i 0 ∧ v.getD i 0 ≤ 1018 := by
  have := h.2 i hi; unfold LA.FB at this; omega
theorem fmul_bd {a b : Int} (ha : 0 ≤ a ∧ a ≤ 1018) (hb : 0 ≤ b ∧ b ≤ 1018) : 0 ≤ a * b ∧ a * b ≤ 1018 * 1018 :=
  ⟨Int.mul_nonneg ha.1 hb.1, Int.le_trans (Int.mul_le_mul_of_nonneg_right ha.2 hb.1) (Int.mul_le_mul_of_nonneg_left hb.2 (by omega))⟩
theorem ftmod {x : Int} (h : 0 ≤ x) : x.tmod 1019 = x % 1019 := Int.tmod_eq_emod_of_nonneg h
theorem take_ap {l : List Int} {i : Nat} {x : Int} (h : i < l.length) (hx : l.getD i 0 = x) : l.take i ++ [x] = l.take (i + 1) := by
  rw [List.take_add_one, List.getElem?_eq_getElem h]
  rw [List.getD_eq_getElem?_getD, List.getElem?_eq_getElem h] at hx
  simp only [Option.getD_some] at hx
  rw [hx]; rfl
def upN (a L : List Int) (i : Nat) : List Int := L.take i ++ a.drop i
theorem upN_zero {a L : List Int} : upN a L 0 = a := by simp [upN]
theorem upN_len {a L : List Int} {i : Nat} (h : L.length = a.length) (hi : i ≤ a.length) : (upN a L i).length = a.length := by simp [upN]; omega
theorem upN_all {a L : List Int} (h : L.length = a.length) : upN a L a.length = L := by
  unfold upN; rw [List.drop_eq_nil_of_le (Nat.le_refl _), List.append_nil, List.take_of_length_le (by omega)]
theorem upN_at {a L : List Int} {i : Nat} (h : L.length = a.length) (hi : i < a.length) : (upN a L i).getD i 0 = a.getD i 0 := by
  unfold upN
  rw [List.getD_eq_getElem?_getD, List.getD_eq_getElem?_getD, List.getElem?_append_right (by simp; omega)]
  have : (L.take i).length = i := by simp; omega
  rw [this, Nat.sub_self, List.getElem?_drop, Nat.add_zero]
theorem upN_set {a L : List Int} {i : Nat} {x : Int} (h : L.length = a.length) (hi : i < a.length) (hx : L.getD i 0 = x) : (upN a L i).set i x = upN a L (i + 1) := by
  unfold upN
  have hl : (L.take i).length = i := by simp; omega
  rw [List.set_append_right _ _ (by omega), hl, Nat.sub_self, List.drop_eq_getElem_cons hi, List.set_cons_zero, ← take_ap (l := L) (x := x) (by omega) hx, List.append_assoc]
  rfl
theorem addS_len {a b : List Int} {k : Int} : (LA.addS a b k).length = a.length := by simp [LA.addS]
theorem sclS_len {a : List Int} {k : Int} : (LA.sclS a k).length = a.length := by simp [LA.sclS]
theorem addS_at {a b : List Int} {k : Int} {i : Nat} (h : i < a.length) : (LA.addS a b k).getD i 0 = (a.getD i 0 + k * b.getD i 0) % 1019 := LA.getD_range h
theorem sclS_at {a : List Int} {k : Int} {i : Nat} (h : i < a.length) : (LA.sclS a k).getD i 0 = (k * a.getD i 0) % 1019 := LA.getD_range h
def lix (v : List Int) : Int := if LA.lead v < v.length then (LA.lead v : Int) else -1
theorem lix_yes {v : List Int} (h : LA.lead v < v.length) : lix v = (LA.lead v : Int) := if_pos h
theorem lix_no {v : List Int} (h : ¬ LA.lead v < v.length) : lix v = -1 := if_neg h
theorem lix_at {v : List Int} {i : Nat} (hi : i < v.length) (h0 : ∀ k, k < i → v.getD k 0 = 0) (h1 : v.getD i 0 ≠ 0) : lix v = i := by
  have := LA.lead_eq hi h0 h1
  rw [lix_yes (by omega), this]
theorem lix_none {v : List Int} (h0 : ∀ k, k < v.length → v.getD k 0 = 0) : lix v = -1 := lix_no fun h => LA.lead_ne v h (h0 _ h)
attribute [local irreducible] LA.addS LA.sclS LA.lead upN lix khash vecB
theorem sLix_fn (v : List Int) (h : v.length ≤ 1048576) : Fn Tryz.prog 116 true (.cons (.ri false .i64 v) .nil) [] (.I (lix v)) [] := by
  (refine Fn_of tysOk Tryz.func116 rfl rfl (by simp [AV.len, Tryz.f116]) ⟨?_⟩; conv => whnf)
  (repeat' first | (refine zK (fun hs => ?_) (fun hs => ?_) <;> ((try simp only [Ct.len] at hs); revert hs; intro _; conv => whnf)) | (refine zI (fun _ => ?_) (fun _ => ?_)<;> conv => whnf)|((first|refine zA ?_|refine zB ?_|refine zC ?_|refine zD ?_|refine zE ?_|refine zF ?_|refine zG ?_|fail); conv => whnf)|(refine zJ (fun _ => ?_) ?_<;> conv => whnf)|((first | refine condN Tryz.underlying4 (Nx.mk ?_) | refine zH ?_ | refine Nx.mk ?_); conv => whnf))
  refine loopI tysOk [] (fun i : Nat => [(3, .I i)]) (fun i => []) (fun i => i ≤ v.length ∧ ∀ k, k < i → v.getD k 0 = 0) (fun i => v.length - i) 0 ⟨Nat.zero_le _, fun k hk => absurd hk (by omega)⟩ ?_ ?_
  · ((try conv => whnf); refine ⟨rfl, by rfl, ?_, ?_⟩ <;> ((repeat' ((try conv => whnf); (first|exact zU|refine And.intro ?_ ?_|exact fun _ _ _ _ => Eq.refl _|refine cellJ (fun _ _ => ?_)|(refine cellB ?_; (conv => whnf); refine And.intro ?_ ?_)|exact zV|fail))) <;> (try conv => whnf)))
  · rintro i ⟨hi, hall⟩
    (repeat' first | (refine zK (fun hs => ?_) (fun hs => ?_) <;> ((try simp only [Ct.len] at hs); revert hs; intro _; conv => whnf)) | (refine zI (fun _ => ?_) (fun _ => ?_)<;> conv => whnf)|((first|refine zA ?_|refine zB ?_|refine zC ?_|refine zD ?_|refine zE ?_|refine zF ?_|refine zG ?_|fail); conv => whnf)|(refine zJ (fun _ => ?_) ?_<;> conv => whnf)|((first | refine condN Tryz.underlying4 (Nx.mk ?_) | refine zH ?_ | refine Nx.mk ?_); conv => whnf))
    · (refine ⟨[], rfl, ⟨rfl, rfl, trivial, trivial⟩, ?_, ⟨?_, trivial⟩, fun _ => ⟨?_, trivial⟩⟩ <;> ((repeat' ((try conv => whnf); (first|exact zU|refine And.intro ?_ ?_|exact fun _ _ _ _ => Eq.refl _|refine cellJ (fun _ _ => ?_)|(refine cellB ?_; (conv => whnf); refine And.intro ?_ ?_)|exact zV|fail))) <;> (try conv => whnf)))
      rename_i h1 h2
      exact (lix_at (by omega) hall h2).symm
    · rename_i h1 h2
      refine ⟨i + 1, ⟨by omega, fun k hk => ?_⟩, by omega, ?_⟩
      · by_cases e : k = i
        · rw [e]; exact Classical.not_not.1 h2
        · exact hall k (by omega)
      · ((try conv => whnf); refine ⟨rfl, by rfl, ?_, ?_⟩ <;> ((repeat' ((try conv => whnf); (first|exact zU|refine And.intro ?_ ?_|exact fun _ _ _ _ => Eq.refl _|refine cellJ (fun _ _ => ?_)|(refine cellB ?_; (conv => whnf); refine And.intro ?_ ?_)|exact zV|fail))) <;> (try conv => whnf)))
    · (refine ⟨[], rfl, ⟨rfl, rfl, trivial, trivial⟩, ?_, ⟨?_, trivial⟩, fun _ => ⟨?_, trivial⟩⟩ <;> ((repeat' ((try conv => whnf); (first|exact zU|refine And.intro ?_ ?_|exact fun _ _ _ _ => Eq.refl _|refine cellJ (fun _ _ => ?_)|(refine cellB ?_; (conv => whnf); refine And.intro ?_ ?_)|exact zV|fail))) <;> (try conv => whnf)))
      exact (lix_none (fun k hk => hall k (by omega))).symm
theorem li1_fn (x : Int) : Fn Tryz.prog 170 true (.cons (.I x) .nil) [] (.b (!decide (x = 0))) [] := by
  (refine Fn_of tysOk Tryz.func170 rfl rfl (by simp [AV.len, Tryz.f170]) ⟨?_⟩; conv => whnf)
  (repeat' first | (refine zK (fun hs => ?_) (fun hs => ?_) <;> ((try simp only [Ct.len] at hs); revert hs; intro _; conv => whnf)) | (refine zI (fun _ => ?_) (fun _ => ?_)<;> conv => whnf)|((first|refine zA ?_|refine zB ?_|refine zC ?_|refine zD ?_|refine zE ?_|refine zF ?_|refine zG ?_|fail); conv => whnf)|(refine zJ (fun _ => ?_) ?_<;> conv => whnf)|((first | refine condN Tryz.underlying4 (Nx.mk ?_) | refine zH ?_ | refine Nx.mk ?_); conv => whnf))
  all_goals
    (refine ⟨[], rfl, ⟨rfl, rfl, trivial, trivial⟩, ?_, ⟨?_, trivial⟩, fun _ => ⟨?_, trivial⟩⟩ <;> ((repeat' ((try conv => whnf); (first|exact zU|refine And.intro ?_ ?_|exact fun _ _ _ _ => Eq.refl _|refine cellJ (fun _ _ => ?_)|(refine cellB ?_; (conv => whnf); refine And.intro ?_ ?_)|exact zV|fail))) <;> (try conv => whnf)))
    all_goals first
      | (rename_i h1; simp [h1]; done)
      | (rename_i h1; simpa using h1)
theorem idxOf_lix (v : List Int) : idxOf (fun x : Int => !decide (x = 0)) v = lix v := by
  by_cases h : LA.lead v < v.length
  · rw [lix_yes h]
    refine idxOf_at h ?_ (fun k hk => ?_)
    · have h1 : v.getD (LA.lead v) 0 ≠ 0 := LA.lead_ne v h
      have e : v.getD (LA.lead v) default = v.getD (LA.lead v) 0 := rfl
      rw [e]; simpa using h1
    · have h1 := LA.lead_lt v k hk
      have e : v.getD k default = v.getD k 0 := rfl
      rw [e, h1]; rfl
  · rw [lix_no h]
    refine idxOf_none (fun k hk => ?_)
    have h1 := LA.lead_lt v k (by have := LA.lead_le v; omega)
    have e : v.getD k default = v.getD k 0 := rfl
    rw [e, h1]; rfl
theorem iLix_fn (v : List Int) (h : v.length ≤ 1048576) : Fn Tryz.prog 131 true (.cons (.ri false .i64 v) .nil) [] (.I (lix v)) [] := by
  have c := indexFunc_fn 170 _ li1_fn v (by omega)
  rw [idxOf_lix] at c
  (refine Fn_of tysOk Tryz.func131 rfl rfl (by simp [AV.len, Tryz.f131]) ⟨?_⟩; conv => whnf)
  (repeat' first | ((with_reducible show ∃ _ : Bool, _); first | (refine ⟨_, [], _, [], _, _, c, rfl, trivial, zW, Nx.mk ?_⟩; conv => whnf))  | (refine zK (fun hs => ?_) (fun hs => ?_) <;> ((try simp only [Ct.len] at hs); revert hs; intro _; conv => whnf)) | (refine zI (fun _ => ?_) (fun _ => ?_)<;> conv => whnf)|((first|refine zA ?_|refine zB ?_|refine zC ?_|refine zD ?_|refine zE ?_|refine zF ?_|refine zG ?_|fail); conv => whnf)|(refine zJ (fun _ => ?_) ?_<;> conv => whnf)|((first | refine condN Tryz.underlying4 (Nx.mk ?_) | refine zH ?_ | refine Nx.mk ?_); conv => whnf))
  all_goals (refine ⟨[], rfl, ⟨rfl, rfl, trivial, trivial⟩, ?_, ⟨?_, trivial⟩, fun _ => ⟨?_, trivial⟩⟩ <;> ((repeat' ((try conv => whnf); (first|exact zU|refine And.intro ?_ ?_|exact fun _ _ _ _ => Eq.refl _|refine cellJ (fun _ _ => ?_)|(refine cellB ?_; (conv => whnf); refine And.intro ?_ ?_)|exact zV|fail))) <;> (try conv => whnf)))
theorem iAddS_fn {w : Nat} (a b : List Int) (k : Int) (ha : LA.VecOk w a) (hb : LA.VecOk w b) (hw : w ≤ 40) (hk : 0 ≤ k ∧ k ≤ 1018) : Fn Tryz.prog 129 true (.cons (.os (rt 0)) (.cons (.ri false .i64 b) (.cons (.I k) .nil))) [(0, .row 3 (.ints .i64 a))] (.os (rt 0)) [(0, .row 3 (.ints .i64 (LA.addS a b k)))] := by
  have hal := ha.1
  have hbl := hb.1
  have hL : (LA.addS a b k).length = a.length := addS_len
  (refine Fn_of tysOk Tryz.func129 rfl rfl (by simp [AV.len, Tryz.f129]) ⟨?_⟩; conv => whnf)
  (repeat' first | (refine zK (fun hs => ?_) (fun hs => ?_) <;> ((try simp only [Ct.len] at hs); revert hs; intro _; conv => whnf)) | (refine zI (fun _ => ?_) (fun _ => ?_)<;> conv => whnf)|((first|refine zA ?_|refine zB ?_|refine zC ?_|refine zD ?_|refine zE ?_|refine zF ?_|refine zG ?_|fail); conv => whnf)|(refine zJ (fun _ => ?_) ?_<;> conv => whnf)|((first | refine condN Tryz.underlying4 (Nx.mk ?_) | refine zH ?_ | refine Nx.mk ?_); conv => whnf))
  refine loopI tysOk [] (fun i : Nat => [(11, .I i)]) (fun i => [(0, some (.row 3 (.ints .i64 (upN a (LA.addS a b k) i))))]) (fun i => i ≤ w) (fun i => w - i) 0 (Nat.zero_le _) ?_ ?_
  · ((try conv => whnf); refine ⟨rfl, by rfl, ?_, ?_⟩ <;> ((repeat' ((try conv => whnf); (first|exact zU|refine And.intro ?_ ?_|exact fun _ _ _ _ => Eq.refl _|refine cellJ (fun _ _ => ?_)|(refine cellB ?_; (conv => whnf); refine And.intro ?_ ?_)|exact zV|fail))) <;> (try conv => whnf)))
    all_goals exact upN_zero.symm
  · intro i hi
    have hul := upN_len (a := a) (L := LA.addS a b k) (i := i) hL (by omega)
    by_cases hlt : i < w
    · have h1 := ha.at_ hlt
      have h2 := hb.at_ hlt
      have h3 := fmul_bd hk h2
      have h4 := upN_at (a := a) (L := LA.addS a b k) (i := i) hL (by omega)
      have h5 := addS_at (a := a) (b := b) (k := k) (i := i) (by omega)
      have h6 := upN_set (a := a) (L := LA.addS a b k) (i := i) hL (by omega) rfl
      rw [h5] at h6
      have h7 := ftmod (x := a.getD i 0 + k * b.getD i 0) (by omega)
      rw [← h4] at h6 h7 h1
      (repeat' first | (refine zK (fun hs => ?_) (fun hs => ?_) <;> ((try simp only [Ct.len] at hs); revert hs; intro _; conv => whnf)) | (refine zI (fun _ => ?_) (fun _ => ?_)<;> conv => whnf)|((first|refine zA ?_|refine zB ?_|refine zC ?_|refine zD ?_|refine zE ?_|refine zF ?_|refine zG ?_|fail); conv => whnf)|(refine zJ (fun _ => ?_) ?_<;> conv => whnf)|((first | refine condN Tryz.underlying4 (Nx.mk ?_) | refine zH ?_ | refine Nx.mk ?_); conv => whnf))
      (all_goals try first | contradiction | (exfalso; omega))
      refine ⟨i + 1, by omega, by omega, ?_⟩
      ((try conv => whnf); refine ⟨rfl, by rfl, ?_, ?_⟩ <;> ((repeat' ((try conv => whnf); (first|exact zU|refine And.intro ?_ ?_|exact fun _ _ _ _ => Eq.refl _|refine cellJ (fun _ _ => ?_)|(refine cellB ?_; (conv => whnf); refine And.intro ?_ ?_)|exact zV|fail))) <;> (try conv => whnf)))
      rw [h7]; exact h6
    · obtain rfl : i = w := by omega
      have h8 : upN a (LA.addS a b k) i = LA.addS a b k := by rw [← hal]; exact upN_all hL
      rw [h8]
      (repeat' first | (refine zK (fun hs => ?_) (fun hs => ?_) <;> ((try simp only [Ct.len] at hs); revert hs; intro _; conv => whnf)) | (refine zI (fun _ => ?_) (fun _ => ?_)<;> conv => whnf)|((first|refine zA ?_|refine zB ?_|refine zC ?_|refine zD ?_|refine zE ?_|refine zF ?_|refine zG ?_|fail); conv => whnf)|(refine zJ (fun _ => ?_) ?_<;> conv => whnf)|((first | refine condN Tryz.underlying4 (Nx.mk ?_) | refine zH ?_ | refine Nx.mk ?_); conv => whnf))
      (all_goals try first | contradiction | (exfalso; omega))
      refine ⟨[], rfl, ?_, ?_, ?_, fun _ => ?_⟩
      · ((try conv => whnf); refine ⟨rfl, by rfl, ?_, ?_⟩ <;> ((repeat' ((try conv => whnf); (first|exact zU|refine And.intro ?_ ?_|exact fun _ _ _ _ => Eq.refl _|refine cellJ (fun _ _ => ?_)|(refine cellB ?_; (conv => whnf); refine And.intro ?_ ?_)|exact zV|fail))) <;> (try conv => whnf)))
      all_goals ((repeat' ((try conv => whnf); (first|exact zU|refine And.intro ?_ ?_|exact fun _ _ _ _ => Eq.refl _|refine cellJ (fun _ _ => ?_)|(refine cellB ?_; (conv => whnf); refine And.intro ?_ ?_)|exact zV|fail))) <;> (try conv => whnf))
theorem sPair_fn {w : Nat} (a b : List Int) (ha : LA.VecOk w a) (hb : LA.VecOk w b) (hw : w ≤ 40) : Fn Tryz.prog 160 true (.cons (.ri false .i64 a) (.cons (.ri false .i64 b) .nil)) [] .tt [] := by
  have hal := ha.1
  have hbl := hb.1
  have c1 := (sVec_fn a (by omega)).tt (vecB_of ha hw)
  have c2 := (sVec_fn b (by omega)).tt (vecB_of hb hw)
  (refine Fn_of tysOk Tryz.func160 rfl rfl (by simp [AV.len, Tryz.f160]) ⟨?_⟩; conv => whnf)
  (repeat' first | ((with_reducible show ∃ _ : Bool, _); first | (refine ⟨_, [], _, [], _, _, c1, rfl, trivial, zW, Nx.mk ?_⟩; conv => whnf)|(refine ⟨_, [], _, [], _, _, c2, rfl, trivial, zW, Nx.mk ?_⟩; conv => whnf))  | (refine zK (fun hs => ?_) (fun hs => ?_) <;> ((try simp only [Ct.len] at hs); revert hs; intro _; conv => whnf)) | (refine zI (fun _ => ?_) (fun _ => ?_)<;> conv => whnf)|((first|refine zA ?_|refine zB ?_|refine zC ?_|refine zD ?_|refine zE ?_|refine zF ?_|refine zG ?_|fail); conv => whnf)|(refine zJ (fun _ => ?_) ?_<;> conv => whnf)|((first | refine condN Tryz.underlying4 (Nx.mk ?_) | refine zH ?_ | refine Nx.mk ?_); conv => whnf))
  (all_goals try first | contradiction | (exfalso; omega))
  all_goals (refine ⟨[], rfl, ⟨rfl, rfl, trivial, trivial⟩, ?_, ⟨?_, trivial⟩, fun _ => ⟨?_, trivial⟩⟩ <;> ((repeat' ((try conv => whnf); (first|exact zU|refine And.intro ?_ ?_|exact fun _ _ _ _ => Eq.refl _|refine cellJ (fun _ _ => ?_)|(refine cellB ?_; (conv => whnf); refine And.intro ?_ ?_)|exact zV|fail))) <;> (try conv => whnf)))
theorem sAddS_fn {w : Nat} (a b : List Int) (k : Int) (ha : LA.VecOk w a) (hb : LA.VecOk w b) (hw : w ≤ 40) (hk : 0 ≤ k ∧ k ≤ 1018) : Fn Tryz.prog 114 true (.cons (.ri false .i64 a) (.cons (.ri false .i64 b) (.cons (.I k) .nil))) [] (.os (rt 16)) [(16, .row 3 (.ints .i64 (LA.addS a b k)))] := by
  have hal := ha.1
  have hbl := hb.1
  have hL : (LA.addS a b k).length = a.length := addS_len
  have c1 := sPair_fn a b ha hb hw
  have c2 := (sEl_fn k).tt (decide_eq_true hk)
  (refine Fn_of tysOk Tryz.func114 rfl rfl (by simp [AV.len, Tryz.f114]) ⟨?_⟩; conv => whnf)
  (repeat' first | ((with_reducible show ∃ _ : Bool, _); first | (refine ⟨_, [], _, [], _, _, c1, rfl, trivial, zW, Nx.mk ?_⟩; conv => whnf)|(refine ⟨_, [], _, [], _, _, c2, rfl, trivial, zW, Nx.mk ?_⟩; conv => whnf))  | (refine zK (fun hs => ?_) (fun hs => ?_) <;> ((try simp only [Ct.len] at hs); revert hs; intro _; conv => whnf)) | (refine zI (fun _ => ?_) (fun _ => ?_)<;> conv => whnf)|((first|refine zA ?_|refine zB ?_|refine zC ?_|refine zD ?_|refine zE ?_|refine zF ?_|refine zG ?_|fail); conv => whnf)|(refine zJ (fun _ => ?_) ?_<;> conv => whnf)|((first | refine condN Tryz.underlying4 (Nx.mk ?_) | refine zH ?_ | refine Nx.mk ?_); conv => whnf))
  (all_goals try first | contradiction | (exfalso; omega))
  refine loopI tysOk [nm 9] (fun i : Nat => [(7, .os (rt (nm 9))), (8, .I i)]) (fun i => [(nm 9, some (.row 3 (.ints .i64 ((LA.addS a b k).take i))))]) (fun i => i ≤ w) (fun i => w - i) 0 (Nat.zero_le _) ?_ ?_
  · ((try conv => whnf); refine ⟨rfl, by rfl, ?_, ?_⟩ <;> ((repeat' ((try conv => whnf); (first|exact zU|refine And.intro ?_ ?_|exact fun _ _ _ _ => Eq.refl _|refine cellJ (fun _ _ => ?_)|(refine cellB ?_; (conv => whnf); refine And.intro ?_ ?_)|exact zV|fail))) <;> (try conv => whnf)))
  · intro i hi
    have htl : ((LA.addS a b k).take i).length = i := by rw [List.length_take]; omega
    by_cases hlt : i < w
    · have h1 := ha.at_ hlt
      have h2 := hb.at_ hlt
      have h3 := fmul_bd h2 hk
      have h5 := addS_at (a := a) (b := b) (k := k) (i := i) (by omega)
      have h7 := ftmod (x := a.getD i 0 + b.getD i 0 * k) (by omega)
      have h6 := take_ap (l := LA.addS a b k) (i := i) (by omega) (h5.trans (by rw [Int.mul_comm k]))
      rw [← h7] at h6
      (repeat' first | ((refine VC_draw (sf := []) tysOk (by kernel_rfl) (by kernel_rfl) (Nx.mk ?_); conv => whnf)) | (refine zK (fun hs => ?_) (fun hs => ?_) <;> ((try simp only [Ct.len] at hs); revert hs; intro _; conv => whnf)) | (refine zI (fun _ => ?_) (fun _ => ?_)<;> conv => whnf)|((first|refine zA ?_|refine zB ?_|refine zC ?_|refine zD ?_|refine zE ?_|refine zF ?_|refine zG ?_|fail); conv => whnf)|(refine zJ (fun _ => ?_) ?_<;> conv => whnf)|((first | refine condN Tryz.underlying4 (Nx.mk ?_) | refine zH ?_ | refine Nx.mk ?_); conv => whnf))
      (all_goals try first | contradiction | (exfalso; omega))
      refine ⟨i + 1, by omega, by omega, ?_⟩
      ((try conv => whnf); refine ⟨rfl, by rfl, ?_, ?_⟩ <;> ((repeat' ((try conv => whnf); (first|exact zU|refine And.intro ?_ ?_|exact fun _ _ _ _ => Eq.refl _|refine cellJ (fun _ _ => ?_)|(refine cellB ?_; (conv => whnf); refine And.intro ?_ ?_)|exact zV|fail))) <;> (try conv => whnf)))
      exact h6
    · obtain rfl : i = w := by omega
      have h8 : (LA.addS a b k).take i = LA.addS a b k := List.take_of_length_le (by omega)
      rw [h8]
      (repeat' first | (refine zK (fun hs => ?_) (fun hs => ?_) <;> ((try simp only [Ct.len] at hs); revert hs; intro _; conv => whnf)) | (refine zI (fun _ => ?_) (fun _ => ?_)<;> conv => whnf)|((first|refine zA ?_|refine zB ?_|refine zC ?_|refine zD ?_|refine zE ?_|refine zF ?_|refine zG ?_|fail); conv => whnf)|(refine zJ (fun _ => ?_) ?_<;> conv => whnf)|((first | refine condN Tryz.underlying4 (Nx.mk ?_) | refine zH ?_ | refine Nx.mk ?_); conv => whnf))
      (all_goals try first | contradiction | (exfalso; omega))
      refine ⟨[(16, nm 9)], rfl, ?_, ?_, ?_, fun _ => ?_⟩
      · ((try conv => whnf); refine ⟨rfl, by rfl, ?_, ?_⟩ <;> ((repeat' ((try conv => whnf); (first|exact zU|refine And.intro ?_ ?_|exact fun _ _ _ _ => Eq.refl _|refine cellJ (fun _ _ => ?_)|(refine cellB ?_; (conv => whnf); refine And.intro ?_ ?_)|exact zV|fail))) <;> (try conv => whnf)))
      all_goals ((repeat' ((try conv => whnf); (first|exact zU|refine And.intro ?_ ?_|exact fun _ _ _ _ => Eq.refl _|refine cellJ (fun _ _ => ?_)|(refine cellB ?_; (conv => whnf); refine And.intro ?_ ?_)|exact zV|fail))) <;> (try conv => whnf))
theorem sScl_fn {w : Nat} (a : List Int) (k : Int) (ha : LA.VecOk w a) (hw : w ≤ 40) (hk : 0 ≤ k ∧ k ≤ 1018) : Fn Tryz.prog 201 true (.cons (.ri false .i64 a) (.cons (.I k) .nil)) [] (.os (rt 16)) [(16, .row 3 (.ints .i64 (LA.sclS a k)))] := by
  have hal := ha.1
  have hL : (LA.sclS a k).length = a.length := sclS_len
  have c1 := (sVec_fn a (by omega)).tt (vecB_of ha hw)
  have c2 := (sEl_fn k).tt (decide_eq_true hk)
  (refine Fn_of tysOk Tryz.func201 rfl rfl (by simp [AV.len, Tryz.f201]) ⟨?_⟩; conv => whnf)
  (repeat' first | ((with_reducible show ∃ _ : Bool, _); first | (refine ⟨_, [], _, [], _, _, c1, rfl, trivial, zW, Nx.mk ?_⟩; conv => whnf)|(refine ⟨_, [], _, [], _, _, c2, rfl, trivial, zW, Nx.mk ?_⟩; conv => whnf))  | (refine zK (fun hs => ?_) (fun hs => ?_) <;> ((try simp only [Ct.len] at hs); revert hs; intro _; conv => whnf)) | (refine zI (fun _ => ?_) (fun _ => ?_)<;> conv => whnf)|((first|refine zA ?_|refine zB ?_|refine zC ?_|refine zD ?_|refine zE ?_|refine zF ?_|refine zG ?_|fail); conv => whnf)|(refine zJ (fun _ => ?_) ?_<;> conv => whnf)|((first | refine condN Tryz.underlying4 (Nx.mk ?_) | refine zH ?_ | refine Nx.mk ?_); conv => whnf))
  (all_goals try first | contradiction | (exfalso; omega))
  refine loopI tysOk [nm 7] (fun i : Nat => [(5, .os (rt (nm 7))), (6, .I i)]) (fun i => [(nm 7, some (.row 3 (.ints .i64 ((LA.sclS a k).take i))))]) (fun i => i ≤ w) (fun i => w - i) 0 (Nat.zero_le _) ?_ ?_
  · ((try conv => whnf); refine ⟨rfl, by rfl, ?_, ?_⟩ <;> ((repeat' ((try conv => whnf); (first|exact zU|refine And.intro ?_ ?_|exact fun _ _ _ _ => Eq.refl _|refine cellJ (fun _ _ => ?_)|(refine cellB ?_; (conv => whnf); refine And.intro ?_ ?_)|exact zV|fail))) <;> (try conv => whnf)))
  · intro i hi
    have htl : ((LA.sclS a k).take i).length = i := by rw [List.length_take]; omega
    by_cases hlt : i < w
    · have h1 := ha.at_ hlt
      have h3 := fmul_bd h1 hk
      have h5 := sclS_at (a := a) (k := k) (i := i) (by omega)
      have h7 := ftmod (x := a.getD i 0 * k) (by omega)
      have h6 := take_ap (l := LA.sclS a k) (i := i) (by omega) (h5.trans (by rw [Int.mul_comm k]))
      rw [← h7] at h6
      (repeat' first | ((refine VC_draw (sf := []) tysOk (by kernel_rfl) (by kernel_rfl) (Nx.mk ?_); conv => whnf)) | (refine zK (fun hs => ?_) (fun hs => ?_) <;> ((try simp only [Ct.len] at hs); revert hs; intro _; conv => whnf)) | (refine zI (fun _ => ?_) (fun _ => ?_)<;> conv => whnf)|((first|refine zA ?_|refine zB ?_|refine zC ?_|refine zD ?_|refine zE ?_|refine zF ?_|refine zG ?_|fail); conv => whnf)|(refine zJ (fun _ => ?_) ?_<;> conv => whnf)|((first | refine condN Tryz.underlying4 (Nx.mk ?_) | refine zH ?_ | refine Nx.mk ?_); conv => whnf))
      (all_goals try first | contradiction | (exfalso; omega))
      refine ⟨i + 1, by omega, by omega, ?_⟩
      ((try conv => whnf); refine ⟨rfl, by rfl, ?_, ?_⟩ <;> ((repeat' ((try conv => whnf); (first|exact zU|refine And.intro ?_ ?_|exact fun _ _ _ _ => Eq.refl _|refine cellJ (fun _ _ => ?_)|(refine cellB ?_; (conv => whnf); refine And.intro ?_ ?_)|exact zV|fail))) <;> (try conv => whnf)))
      exact h6
    · obtain rfl : i = w := by omega
      have h8 : (LA.sclS a k).take i = LA.sclS a k := List.take_of_length_le (by omega)
      rw [h8]
      (repeat' first | (refine zK (fun hs => ?_) (fun hs => ?_) <;> ((try simp only [Ct.len] at hs); revert hs; intro _; conv => whnf)) | (refine zI (fun _ => ?_) (fun _ => ?_)<;> conv => whnf)|((first|refine zA ?_|refine zB ?_|refine zC ?_|refine zD ?_|refine zE ?_|refine zF ?_|refine zG ?_|fail); conv => whnf)|(refine zJ (fun _ => ?_) ?_<;> conv => whnf)|((first | refine condN Tryz.underlying4 (Nx.mk ?_) | refine zH ?_ | refine Nx.mk ?_); conv => whnf))
      (all_goals try first | contradiction | (exfalso; omega))
      refine ⟨[(16, nm 7)], rfl, ?_, ?_, ?_, fun _ => ?_⟩
      · ((try conv => whnf); refine ⟨rfl, by rfl, ?_, ?_⟩ <;> ((repeat' ((try conv => whnf); (first|exact zU|refine And.intro ?_ ?_|exact fun _ _ _ _ => Eq.refl _|refine cellJ (fun _ _ => ?_)|(refine cellB ?_; (conv => whnf); refine And.intro ?_ ?_)|exact zV|fail))) <;> (try conv => whnf)))
      all_goals ((repeat' ((try conv => whnf); (first|exact zU|refine And.intro ?_ ?_|exact fun _ _ _ _ => Eq.refl _|refine cellJ (fun _ _ => ?_)|(refine cellB ?_; (conv => whnf); refine And.intro ?_ ?_)|exact zV|fail))) <;> (try conv => whnf))
theorem zeros_ok {w : Nat} : LA.VecOk w (List.replicate w 0) := ⟨by simp, fun i hi => by rw [List.getD_eq_getElem?_getD, List.getElem?_replicate, if_pos hi]; exact ⟨by decide, by decide⟩⟩
theorem iScl_fn {w : Nat} (a : List Int) (k : Int) (ha : LA.VecOk w a) (hw : w ≤ 40) (hk : 0 ≤ k ∧ k ≤ 1018) : Fn Tryz.prog 193 true (.cons (.ri false .i64 a) (.cons (.I k) .nil)) [] (.os (rt 16)) [(16, .row 3 (.ints .i64 (LA.sclS a k)))] := by
  have hal := ha.1
  have c1 := (iVec_fn a (by omega)).tt (vecB_of ha hw)
  have c2 := (iEl_fn k).tt (decide_eq_true hk)
  have c3 := iAddS_fn (List.replicate w 0) a k zeros_ok ha hw hk
  rw [LA.sclS_add hal] at c3
  rw [← hal] at c3
  (refine Fn_of tysOk Tryz.func193 rfl rfl (by simp [AV.len, Tryz.f193]) ⟨?_⟩; conv => whnf)
  (repeat' first | ((with_reducible show ∃ _ : Bool, _); first | (refine ⟨_, [], _, [], _, _, c1, rfl, trivial, zW, Nx.mk ?_⟩; conv => whnf)|(refine ⟨_, [], _, [], _, _, c2, rfl, trivial, zW, Nx.mk ?_⟩; conv => whnf)|(refine ⟨_, [rt (nm 15)], _, _, _, _, c3, rfl, zW, zW, Nx.mk ?_⟩; conv => whnf)) | (refine ⟨a.length, a.length, rfl, rfl, Nat.le_refl _, by omega, Nx.mk ?_⟩; conv => whnf)|(refine zK (fun hs => ?_) (fun hs => ?_) <;> ((try simp only [Ct.len] at hs); revert hs; intro _; conv => whnf)) | (refine zI (fun _ => ?_) (fun _ => ?_)<;> conv => whnf)|((first|refine zA ?_|refine zB ?_|refine zC ?_|refine zD ?_|refine zE ?_|refine zF ?_|refine zG ?_|fail); conv => whnf)|(refine zJ (fun _ => ?_) ?_<;> conv => whnf)|((first | refine condN Tryz.underlying4 (Nx.mk ?_) | refine zH ?_ | refine Nx.mk ?_); conv => whnf))
  (all_goals try first | contradiction | (exfalso; omega))
  all_goals
    refine ⟨[(16, nm 15)], rfl, ?_, ?_, ?_, fun _ => ?_⟩
    · ((try conv => whnf); refine ⟨rfl, by rfl, ?_, ?_⟩ <;> ((repeat' ((try conv => whnf); (first|exact zU|refine And.intro ?_ ?_|exact fun _ _ _ _ => Eq.refl _|refine cellJ (fun _ _ => ?_)|(refine cellB ?_; (conv => whnf); refine And.intro ?_ ?_)|exact zV|fail))) <;> (try conv => whnf)))
    all_goals ((repeat' ((try conv => whnf); (first|exact zU|refine And.intro ?_ ?_|exact fun _ _ _ _ => Eq.refl _|refine cellJ (fun _ _ => ?_)|(refine cellB ?_; (conv => whnf); refine And.intro ?_ ?_)|exact zV|fail))) <;> (try conv => whnf))
def unitL (n i : Nat) : List Int := (List.replicate n 0).set i 1
theorem unitL_len {n i : Nat} : (unitL n i).length = n := by simp [unitL]
theorem unitL_at {n i k : Nat} (h : k < n) : (unitL n i).getD k 0 = if k = i then 1 else 0 := by
  unfold unitL
  rw [List.getD_eq_getElem?_getD, List.getElem?_set]
  by_cases e : i = k
  · subst e; simp [h]
  · rw [if_neg e, if_neg (fun h => e h.symm), List.getElem?_replicate, if_pos h]; rfl
theorem unitL_ok {n i : Nat} : LA.VecOk n (unitL n i) := ⟨unitL_len, fun k hk => by rw [unitL_at hk]; unfold LA.FB; split <;> omega⟩
theorem unitL_set {n i : Nat} : (List.replicate n (0 : Int)).set i 1 = unitL n i := rfl
attribute [local irreducible] unitL
theorem sUnit_fn (n i : Nat) (hn : n ≤ 40) (hi : i < n) : Fn Tryz.prog 158 true (.cons (.I n) (.cons (.I i) .nil)) [] (.os (rt 16)) [(16, .row 3 (.ints .i64 (unitL n i)))] := by
  have hL := unitL_len (n := n) (i := i)
  have c1 := (l1In_fn (n : Int) 0 40).tt (decide_eq_true (by omega))
  have c2 := (l1In_fn (i : Int) 0 ((n : Int) - 1)).tt (decide_eq_true (by omega))
  (refine Fn_of tysOk Tryz.func158 rfl rfl (by simp [AV.len, Tryz.f158]) ⟨?_⟩; conv => whnf)
  (repeat' first | ((with_reducible show ∃ _ : Bool, _); first | (refine ⟨_, [], _, [], _, _, c1, rfl, trivial, zW, Nx.mk ?_⟩; conv => whnf)|(refine ⟨_, [], _, [], _, _, c2, rfl, trivial, zW, Nx.mk ?_⟩; conv => whnf))  | (refine zK (fun hs => ?_) (fun hs => ?_) <;> ((try simp only [Ct.len] at hs); revert hs; intro _; conv => whnf)) | (refine zI (fun _ => ?_) (fun _ => ?_)<;> conv => whnf)|((first|refine zA ?_|refine zB ?_|refine zC ?_|refine zD ?_|refine zE ?_|refine zF ?_|refine zG ?_|fail); conv => whnf)|(refine zJ (fun _ => ?_) ?_<;> conv => whnf)|((first | refine condN Tryz.underlying4 (Nx.mk ?_) | refine zH ?_ | refine Nx.mk ?_); conv => whnf))
  (all_goals try first | contradiction | (exfalso; omega))
  refine loopI tysOk [nm 7] (fun k : Nat => [(5, .os (rt (nm 7))), (6, .I k)]) (fun k => [(nm 7, some (.row 3 (.ints .i64 ((unitL n i).take k))))]) (fun k => k ≤ n) (fun k => n - k) 0 (Nat.zero_le _) ?_ ?_
  · ((try conv => whnf); refine ⟨rfl, by rfl, ?_, ?_⟩ <;> ((repeat' ((try conv => whnf); (first|exact zU|refine And.intro ?_ ?_|exact fun _ _ _ _ => Eq.refl _|refine cellJ (fun _ _ => ?_)|(refine cellB ?_; (conv => whnf); refine And.intro ?_ ?_)|exact zV|fail))) <;> (try conv => whnf)))
  · intro k hk
    have htl : ((unitL n i).take k).length = k := by rw [List.length_take]; omega
    by_cases hlt : k < n
    · have h5 := unitL_at (n := n) (i := i) hlt
      have h6 := take_ap (l := unitL n i) (i := k) (by omega) h5
      (repeat' first | (refine zK (fun hs => ?_) (fun hs => ?_) <;> ((try simp only [Ct.len] at hs); revert hs; intro _; conv => whnf)) | (refine zI (fun _ => ?_) (fun _ => ?_)<;> conv => whnf)|((first|refine zA ?_|refine zB ?_|refine zC ?_|refine zD ?_|refine zE ?_|refine zF ?_|refine zG ?_|fail); conv => whnf)|(refine zJ (fun _ => ?_) ?_<;> conv => whnf)|((first | refine condN Tryz.underlying4 (Nx.mk ?_) | refine zH ?_ | refine Nx.mk ?_); conv => whnf))
      (all_goals try first | contradiction | (exfalso; omega))
      all_goals
        refine ⟨k + 1, by omega, by omega, ?_⟩
        ((try conv => whnf); refine ⟨rfl, by rfl, ?_, ?_⟩ <;> ((repeat' ((try conv => whnf); (first|exact zU|refine And.intro ?_ ?_|exact fun _ _ _ _ => Eq.refl _|refine cellJ (fun _ _ => ?_)|(refine cellB ?_; (conv => whnf); refine And.intro ?_ ?_)|exact zV|fail))) <;> (try conv => whnf)))
        rw [← h6]
        first
          | rw [if_pos (by omega)]
          | rw [if_neg (by omega)]
    · obtain rfl : k = n := by omega
      have h8 : (unitL k i).take k = unitL k i := List.take_of_length_le (by omega)
      rw [h8]
      (repeat' first | (refine zK (fun hs => ?_) (fun hs => ?_) <;> ((try simp only [Ct.len] at hs); revert hs; intro _; conv => whnf)) | (refine zI (fun _ => ?_) (fun _ => ?_)<;> conv => whnf)|((first|refine zA ?_|refine zB ?_|refine zC ?_|refine zD ?_|refine zE ?_|refine zF ?_|refine zG ?_|fail); conv => whnf)|(refine zJ (fun _ => ?_) ?_<;> conv => whnf)|((first | refine condN Tryz.underlying4 (Nx.mk ?_) | refine zH ?_ | refine Nx.mk ?_); conv => whnf))
      (all_goals try first | contradiction | (exfalso; omega))
      refine ⟨[(16, nm 7)], rfl, ?_, ?_, ?_, fun _ => ?_⟩
      · ((try conv => whnf); refine ⟨rfl, by rfl, ?_, ?_⟩ <;> ((repeat' ((try conv => whnf); (first|exact zU|refine And.intro ?_ ?_|exact fun _ _ _ _ => Eq.refl _|refine cellJ (fun _ _ => ?_)|(refine cellB ?_; (conv => whnf); refine And.intro ?_ ?_)|exact zV|fail))) <;> (try conv => whnf)))
      all_goals ((repeat' ((try conv => whnf); (first|exact zU|refine And.intro ?_ ?_|exact fun _ _ _ _ => Eq.refl _|refine cellJ (fun _ _ => ?_)|(refine cellB ?_; (conv => whnf); refine And.intro ?_ ?_)|exact zV|fail))) <;> (try conv => whnf))
theorem iUnit_fn (n i : Nat) (hn : n ≤ 40) (hi : i < n) : Fn Tryz.prog 125 true (.cons (.I n) (.cons (.I i) .nil)) [] (.os (rt 16)) [(16, .row 3 (.ints .i64 (unitL n i)))] := by
  have c1 := (inRange_fn (n : Int) 0 40).tt (decide_eq_true (by omega))
  have c2 := (inRange_fn (i : Int) 0 ((n : Int) - 1)).tt (decide_eq_true (by omega))
  have hr : (List.replicate n (0 : Int)).length = n := by simp
  (refine Fn_of tysOk Tryz.func125 rfl rfl (by simp [AV.len, Tryz.f125]) ⟨?_⟩; conv => whnf)
  (repeat' first | ((with_reducible show ∃ _ : Bool, _); first | (refine ⟨_, [], _, [], _, _, c1, rfl, trivial, zW, Nx.mk ?_⟩; conv => whnf)|(refine ⟨_, [], _, [], _, _, c2, rfl, trivial, zW, Nx.mk ?_⟩; conv => whnf)) | (refine ⟨n, n, rfl, rfl, Nat.le_refl _, by omega, Nx.mk ?_⟩; conv => whnf)|(refine zK (fun hs => ?_) (fun hs => ?_) <;> ((try simp only [Ct.len] at hs); revert hs; intro _; conv => whnf)) | (refine zI (fun _ => ?_) (fun _ => ?_)<;> conv => whnf)|((first|refine zA ?_|refine zB ?_|refine zC ?_|refine zD ?_|refine zE ?_|refine zF ?_|refine zG ?_|fail); conv => whnf)|(refine zJ (fun _ => ?_) ?_<;> conv => whnf)|((first | refine condN Tryz.underlying4 (Nx.mk ?_) | refine zH ?_ | refine Nx.mk ?_); conv => whnf))
  (all_goals try first | contradiction | (exfalso; omega))
  refine idxInt i rfl (show i < (List.replicate n (0 : Int)).length from by omega) (Nx.mk ?_)
  conv => whnf
  refine condN (show i < (List.replicate n (0 : Int)).length from by omega) (Nx.mk ?_)
  conv => whnf
  (repeat' first | (refine zK (fun hs => ?_) (fun hs => ?_) <;> ((try simp only [Ct.len] at hs); revert hs; intro _; conv => whnf)) | (refine zI (fun _ => ?_) (fun _ => ?_)<;> conv => whnf)|((first|refine zA ?_|refine zB ?_|refine zC ?_|refine zD ?_|refine zE ?_|refine zF ?_|refine zG ?_|fail); conv => whnf)|(refine zJ (fun _ => ?_) ?_<;> conv => whnf)|((first | refine condN Tryz.underlying4 (Nx.mk ?_) | refine zH ?_ | refine Nx.mk ?_); conv => whnf))
  (all_goals try first | contradiction | (exfalso; omega))
  all_goals
    refine ⟨[(16, nm 17)], rfl, ?_, ?_, ?_, fun _ => ?_⟩
    · ((try conv => whnf); refine ⟨rfl, by rfl, ?_, ?_⟩ <;> ((repeat' ((try conv => whnf); (first|exact zU|refine And.intro ?_ ?_|exact fun _ _ _ _ => Eq.refl _|refine cellJ (fun _ _ => ?_)|(refine cellB ?_; (conv => whnf); refine And.intro ?_ ?_)|exact zV|fail))) <;> (try conv => whnf)))
      exact unitL_set
    all_goals ((repeat' ((try conv => whnf); (first|exact zU|refine And.intro ?_ ?_|exact fun _ _ _ _ => Eq.refl _|refine cellJ (fun _ _ => ?_)|(refine cellB ?_; (conv => whnf); refine And.intro ?_ ?_)|exact zV|fail))) <;> (try conv => whnf))
def idL (n : Nat) : List (List Int) := (List.range n).map (unitL n)
theorem idL_len {n : Nat} : (idL n).length = n := by simp [idL]
theorem idL_at {n i : Nat} (h : i < n) : (idL n).getD i default = unitL n i := by simp [idL, List.getD_eq_getElem?_getD, h]
attribute [local irreducible] idL
theorem sId_fn (n : Nat) (hn : n ≤ 40) : Fn Tryz.prog 111 true (.cons (.I n) .nil) [] (.os (rt 16)) [(16, .row 22 (.tab n 1 (cellsA ints_O_i64 (idL n))))] := by
  (refine Fn_of tysOk Tryz.func111 rfl rfl (by simp [AV.len, Tryz.f111]) ⟨?_⟩; conv => whnf)
  (repeat' first | (refine zK (fun hs => ?_) (fun hs => ?_) <;> ((try simp only [Ct.len] at hs); revert hs; intro _; conv => whnf)) | (refine zI (fun _ => ?_) (fun _ => ?_)<;> conv => whnf)|((first|refine zA ?_|refine zB ?_|refine zC ?_|refine zD ?_|refine zE ?_|refine zF ?_|refine zG ?_|fail); conv => whnf)|(refine zJ (fun _ => ?_) ?_<;> conv => whnf)|((first | refine condN Tryz.underlying4 (Nx.mk ?_) | refine zH ?_ | refine Nx.mk ?_); conv => whnf))
  refine loopI tysOk [nm 5] (fun k : Nat => [(3, .os (rt (nm 5))), (4, .I k)]) (fun k => [(nm 5, some (.row 22 (.tab k 1 (cellsA ints_O_i64 (idL n)))))]) (fun k => k ≤ n) (fun k => n - k) 0 (Nat.zero_le _) ?_ ?_
  · ((try conv => whnf); refine ⟨rfl, by rfl, ?_, ?_⟩ <;> ((repeat' ((try conv => whnf); (first|exact zU|refine And.intro ?_ ?_|exact fun _ _ _ _ => Eq.refl _|refine cellJ (fun _ _ => ?_)|(refine cellB ?_; (conv => whnf); refine And.intro ?_ ?_)|exact zV|fail))) <;> (try conv => whnf)))
    all_goals omega
  · intro k hk
    by_cases hlt : k < n
    · have h5 := idL_at hlt
      (repeat' first | ((with_reducible show ∃ _ : Bool, _); first | (refine ⟨_, [], _, [], _, _, sUnit_fn n k hn hlt, rfl, trivial, zW, Nx.mk ?_⟩; conv => whnf))  | (refine zK (fun hs => ?_) (fun hs => ?_) <;> ((try simp only [Ct.len] at hs); revert hs; intro _; conv => whnf)) | (refine zI (fun _ => ?_) (fun _ => ?_)<;> conv => whnf)|((first|refine zA ?_|refine zB ?_|refine zC ?_|refine zD ?_|refine zE ?_|refine zF ?_|refine zG ?_|fail); conv => whnf)|(refine zJ (fun _ => ?_) ?_<;> conv => whnf)|((first | refine condN Tryz.underlying4 (Nx.mk ?_) | refine zH ?_ | refine Nx.mk ?_); conv => whnf))
      (all_goals try first | contradiction | (exfalso; omega))
      all_goals
        refine ⟨k + 1, by omega, by omega, ?_⟩
        ((try conv => whnf); refine ⟨rfl, by rfl, ?_, ?_⟩ <;> ((repeat' ((try conv => whnf); (first|exact zU|refine And.intro ?_ ?_|exact fun _ _ _ _ => Eq.refl _|refine cellJ (fun _ _ => ?_)|(refine cellB ?_; (conv => whnf); refine And.intro ?_ ?_)|exact zV|fail))) <;> (try conv => whnf)))
        all_goals
          rename_i j hj
          have hj : j < k + 1 := hj
          by_cases e : j = k
          · subst e
            simp only [Ct.len, Nat.beq_refl, Bool.and_true, Bool.true_and, cond_true, Blk.kill, Ct.kill, Blk.asOwn, cellsA, h5]
            ((repeat' ((try conv => whnf); (first|exact zU|refine And.intro ?_ ?_|exact fun _ _ _ _ => Eq.refl _|refine cellJ (fun _ _ => ?_)|(refine cellB ?_; (conv => whnf); refine And.intro ?_ ?_)|exact zV|fail))) <;> (try conv => whnf))
          · have e2 : j < k := by omega
            simp only [Ct.len, beq_ne e, Bool.false_and, cond_false, Ct.kill, Ct.cell, blt_of e2, cond_true, cellsA]
            ((repeat' ((try conv => whnf); (first|exact zU|refine And.intro ?_ ?_|exact fun _ _ _ _ => Eq.refl _|refine cellJ (fun _ _ => ?_)|(refine cellB ?_; (conv => whnf); refine And.intro ?_ ?_)|exact zV|fail))) <;> (try conv => whnf))
    · obtain rfl : k = n := by omega
      (repeat' first | (refine zK (fun hs => ?_) (fun hs => ?_) <;> ((try simp only [Ct.len] at hs); revert hs; intro _; conv => whnf)) | (refine zI (fun _ => ?_) (fun _ => ?_)<;> conv => whnf)|((first|refine zA ?_|refine zB ?_|refine zC ?_|refine zD ?_|refine zE ?_|refine zF ?_|refine zG ?_|fail); conv => whnf)|(refine zJ (fun _ => ?_) ?_<;> conv => whnf)|((first | refine condN Tryz.underlying4 (Nx.mk ?_) | refine zH ?_ | refine Nx.mk ?_); conv => whnf))
      (all_goals try first | contradiction | (exfalso; omega))
      all_goals
        refine ⟨[(16, nm 5)], rfl, ?_, ?_, ?_, fun _ => ?_⟩
        · ((try conv => whnf); refine ⟨rfl, by rfl, ?_, ?_⟩ <;> ((repeat' ((try conv => whnf); (first|exact zU|refine And.intro ?_ ?_|exact fun _ _ _ _ => Eq.refl _|refine cellJ (fun _ _ => ?_)|(refine cellB ?_; (conv => whnf); refine And.intro ?_ ?_)|exact zV|fail))) <;> (try conv => whnf)))
        all_goals ((repeat' ((try conv => whnf); (first|exact zU|refine And.intro ?_ ?_|exact fun _ _ _ _ => Eq.refl _|refine cellJ (fun _ _ => ?_)|(refine cellB ?_; (conv => whnf); refine And.intro ?_ ?_)|exact zV|fail))) <;> (try conv => whnf))
theorem iId_fn (n : Nat) (hn : n ≤ 40) : Fn Tryz.prog 77 true (.cons (.I n) .nil) [] (.os (rt 16)) [(16, .row 22 (.tab n 1 (cellsA ints_O_i64 (idL n))))] := by
  have c1 := (inRange_fn (n : Int) 0 40).tt (decide_eq_true (by omega))
  (refine Fn_of tysOk Tryz.func77 rfl rfl (by simp [AV.len, Tryz.f77]) ⟨?_⟩; conv => whnf)
  (repeat' first | ((with_reducible show ∃ _ : Bool, _); first | (refine ⟨_, [], _, [], _, _, c1, rfl, trivial, zW, Nx.mk ?_⟩; conv => whnf))  | (refine zK (fun hs => ?_) (fun hs => ?_) <;> ((try simp only [Ct.len] at hs); revert hs; intro _; conv => whnf)) | (refine zI (fun _ => ?_) (fun _ => ?_)<;> conv => whnf)|((first|refine zA ?_|refine zB ?_|refine zC ?_|refine zD ?_|refine zE ?_|refine zF ?_|refine zG ?_|fail); conv => whnf)|(refine zJ (fun _ => ?_) ?_<;> conv => whnf)|((first | refine condN Tryz.underlying4 (Nx.mk ?_) | refine zH ?_ | refine Nx.mk ?_); conv => whnf))
  (all_goals try first | contradiction | (exfalso; omega))
  refine loopI tysOk [nm 17] (fun k : Nat => [(3, .os (rt (nm 17))), (9, .I k)]) (fun k => [(nm 17, some (.row 22 (.tab k 1 (cellsA ints_O_i64 (idL n)))))]) (fun k => k ≤ n) (fun k => n - k) 0 (Nat.zero_le _) ?_ ?_
  · ((try conv => whnf); refine ⟨rfl, by rfl, ?_, ?_⟩ <;> ((repeat' ((try conv => whnf); (first|exact zU|refine And.intro ?_ ?_|exact fun _ _ _ _ => Eq.refl _|refine cellJ (fun _ _ => ?_)|(refine cellB ?_; (conv => whnf); refine And.intro ?_ ?_)|exact zV|fail))) <;> (try conv => whnf)))
    all_goals omega
  · intro k hk
    by_cases hlt : k < n
    · have h5 := idL_at hlt
      (repeat' first | ((with_reducible show ∃ _ : Bool, _); first | (refine ⟨_, [], _, [], _, _, iUnit_fn n k hn hlt, rfl, trivial, zW, Nx.mk ?_⟩; conv => whnf))  | (refine zK (fun hs => ?_) (fun hs => ?_) <;> ((try simp only [Ct.len] at hs); revert hs; intro _; conv => whnf)) | (refine zI (fun _ => ?_) (fun _ => ?_)<;> conv => whnf)|((first|refine zA ?_|refine zB ?_|refine zC ?_|refine zD ?_|refine zE ?_|refine zF ?_|refine zG ?_|fail); conv => whnf)|(refine zJ (fun _ => ?_) ?_<;> conv => whnf)|((first | refine condN Tryz.underlying4 (Nx.mk ?_) | refine zH ?_ | refine Nx.mk ?_); conv => whnf))
      (all_goals try first | contradiction | (exfalso; omega))
      all_goals
        refine ⟨k + 1, by omega, by omega, ?_⟩
        ((try conv => whnf); refine ⟨rfl, by rfl, ?_, ?_⟩ <;> ((repeat' ((try conv => whnf); (first|exact zU|refine And.intro ?_ ?_|exact fun _ _ _ _ => Eq.refl _|refine cellJ (fun _ _ => ?_)|(refine cellB ?_; (conv => whnf); refine And.intro ?_ ?_)|exact zV|fail))) <;> (try conv => whnf)))
        all_goals
          rename_i j hj
          have hj : j < k + 1 := hj
          by_cases e : j = k
          · subst e
            simp only [Ct.len, Nat.beq_refl, Bool.and_true, Bool.true_and, cond_true, Blk.kill, Ct.kill, Blk.asOwn, cellsA, h5]
            ((repeat' ((try conv => whnf); (first|exact zU|refine And.intro ?_ ?_|exact fun _ _ _ _ => Eq.refl _|refine cellJ (fun _ _ => ?_)|(refine cellB ?_; (conv => whnf); refine And.intro ?_ ?_)|exact zV|fail))) <;> (try conv => whnf))
          · have e2 : j < k := by omega
            simp only [Ct.len, beq_ne e, Bool.false_and, cond_false, Ct.kill, Ct.cell, blt_of e2, cond_true, cellsA]
            ((repeat' ((try conv => whnf); (first|exact zU|refine And.intro ?_ ?_|exact fun _ _ _ _ => Eq.refl _|refine cellJ (fun _ _ => ?_)|(refine cellB ?_; (conv => whnf); refine And.intro ?_ ?_)|exact zV|fail))) <;> (try conv => whnf))
    · obtain rfl : k = n := by omega
      (repeat' first | (refine zK (fun hs => ?_) (fun hs => ?_) <;> ((try simp only [Ct.len] at hs); revert hs; intro _; conv => whnf)) | (refine zI (fun _ => ?_) (fun _ => ?_)<;> conv => whnf)|((first|refine zA ?_|refine zB ?_|refine zC ?_|refine zD ?_|refine zE ?_|refine zF ?_|refine zG ?_|fail); conv => whnf)|(refine zJ (fun _ => ?_) ?_<;> conv => whnf)|((first | refine condN Tryz.underlying4 (Nx.mk ?_) | refine zH ?_ | refine Nx.mk ?_); conv => whnf))
      (all_goals try first | contradiction | (exfalso; omega))
      all_goals
        refine ⟨[(16, nm 17)], rfl, ?_, ?_, ?_, fun _ => ?_⟩
        · ((try conv => whnf); refine ⟨rfl, by rfl, ?_, ?_⟩ <;> ((repeat' ((try conv => whnf); (first|exact zU|refine And.intro ?_ ?_|exact fun _ _ _ _ => Eq.refl _|refine cellJ (fun _ _ => ?_)|(refine cellB ?_; (conv => whnf); refine And.intro ?_ ?_)|exact zV|fail))) <;> (try conv => whnf)))
        all_goals ((repeat' ((try conv => whnf); (first|exact zU|refine And.intro ?_ ?_|exact fun _ _ _ _ => Eq.refl _|refine cellJ (fun _ _ => ?_)|(refine cellB ?_; (conv => whnf); refine And.intro ?_ ?_)|exact zV|fail))) <;> (try conv => whnf))
def rnd (seed : Int) (i : Nat) : Int := khash seed [(i : Int), 71] * khash seed [(i : Int), 71] % 2147483647 % 1019
theorem rnd_bd (seed : Int) (i : Nat) : 0 ≤ rnd seed i ∧ rnd seed i ≤ 1018 := by unfold rnd; omega
def rvR (seed : Int) (n : Nat) : List Int := (List.range n).map (rnd seed)
theorem rvR_len {seed : Int} {n : Nat} : (rvR seed n).length = n := by simp [rvR]
theorem rvR_at {seed : Int} {n i : Nat} (h : i < n) : (rvR seed n).getD i 0 = rnd seed i := by simp [rvR, List.getD_eq_getElem?_getD, h]
def rvL (seed : Int) (n : Nat) : List Int := if LA.lead (rvR seed n) < (rvR seed n).length then rvR seed n else (rvR seed n).set 0 1
theorem rvL_yes {seed : Int} {n : Nat} (h : ¬ lix (rvR seed n) < 0) : rvL seed n = rvR seed n := by
  by_cases h1 : LA.lead (rvR seed n) < (rvR seed n).length
  · exact if_pos h1
  · rw [lix_no h1] at h; omega
theorem rvL_no {seed : Int} {n : Nat} (h : lix (rvR seed n) < 0) : rvL seed n = (rvR seed n).set 0 1 := by
  by_cases h1 : LA.lead (rvR seed n) < (rvR seed n).length
  · rw [lix_yes h1] at h; omega
  · exact if_neg h1
theorem rvL_len {seed : Int} {n : Nat} : (rvL seed n).length = n := by unfold rvL; split <;> simp [rvR_len]
theorem rvL_ok {seed : Int} {n : Nat} : LA.VecOk n (rvL seed n) := by
  refine ⟨rvL_len, fun i hi => ?_⟩
  have h1 := rnd_bd seed i
  have h2 := rvR_at (seed := seed) hi
  unfold rvL
  split
  · rw [h2]; unfold LA.FB; omega
  · by_cases e : i = 0
    · subst e
      rw [List.getD_eq_getElem?_getD, List.getElem?_set_self (by rw [rvR_len]; exact hi)]
      exact ⟨by decide, by decide⟩
    · rw [List.getD_eq_getElem?_getD, List.getElem?_set_ne (by omega), ← List.getD_eq_getElem?_getD, h2]; unfold LA.FB; omega
theorem hh_bd (seed : Int) (l : List Int) : 0 ≤ khash seed l * khash seed l ∧ khash seed l * khash seed l ≤ 2147483646 * 2147483646 := by
  have h := khash_bd seed l
  have h1 : khash seed l ≤ 2147483646 := by omega
  have h0 : 0 ≤ khash seed l := by omega
  exact ⟨Int.mul_nonneg h0 h0, Int.le_trans (Int.mul_le_mul_of_nonneg_right h1 h0) (Int.mul_le_mul_of_nonneg_left h1 (by omega))⟩
theorem sRnd_fn (seed : Int) (i : Nat) : Fn Tryz.prog 115 true (.cons (.I seed) (.cons (.I i) (.cons (.I 1019) .nil))) [] (.I (rnd seed i)) [] := by
  have c1 := (l1In_fn 1019 1 1000000000000).tt (by decide)
  have c2 := sKh_fn seed [(i : Int), 71] (by simp)
  have h1 := hh_bd seed [(i : Int), 71]
  have e1 : (khash seed [(i : Int), 71] * khash seed [(i : Int), 71]).tmod 2147483647 = khash seed [(i : Int), 71] * khash seed [(i : Int), 71] % 2147483647 := Int.tmod_eq_emod_of_nonneg (by omega)
  have e2 : (khash seed [(i : Int), 71] * khash seed [(i : Int), 71] % 2147483647).tmod 1019 = rnd seed i := Int.tmod_eq_emod_of_nonneg (by omega)
  have h2 := khash_bd seed [(i : Int), 71]
  (refine Fn_of tysOk Tryz.func115 rfl rfl (by simp [AV.len, Tryz.f115]) ⟨?_⟩; conv => whnf)
  (repeat' first | ((with_reducible show ∃ _ : Bool, _); first | (refine ⟨_, [], _, [], _, _, c1, rfl, trivial, zW, Nx.mk ?_⟩; conv => whnf)|(refine ⟨_, [], _, [], _, _, c2, rfl, trivial, zW, Nx.mk ?_⟩; conv => whnf))  | (refine zK (fun hs => ?_) (fun hs => ?_) <;> ((try simp only [Ct.len] at hs); revert hs; intro _; conv => whnf)) | (refine zI (fun _ => ?_) (fun _ => ?_)<;> conv => whnf)|((first|refine zA ?_|refine zB ?_|refine zC ?_|refine zD ?_|refine zE ?_|refine zF ?_|refine zG ?_|fail); conv => whnf)|(refine zJ (fun _ => ?_) ?_<;> conv => whnf)|((first | refine condN Tryz.underlying4 (Nx.mk ?_) | refine zH ?_ | refine Nx.mk ?_); conv => whnf))
  (all_goals try first | contradiction | (exfalso; omega))
  all_goals
    (refine ⟨[], rfl, ⟨rfl, rfl, trivial, trivial⟩, ?_, ⟨?_, trivial⟩, fun _ => ⟨?_, trivial⟩⟩ <;> ((repeat' ((try conv => whnf); (first|exact zU|refine And.intro ?_ ?_|exact fun _ _ _ _ => Eq.refl _|refine cellJ (fun _ _ => ?_)|(refine cellB ?_; (conv => whnf); refine And.intro ?_ ?_)|exact zV|fail))) <;> (try conv => whnf)))
    all_goals (rw [e1]; exact e2)
theorem iRnd_fn (seed : Int) (i : Nat) : Fn Tryz.prog 130 true (.cons (.I seed) (.cons (.I i) (.cons (.I 1019) .nil))) [] (.I (rnd seed i)) [] := by
  have c1 := (inRange_fn 1019 1 1000000000000).tt (by decide)
  have c2 := iKh_fn seed [(i : Int), 71] (by simp)
  have h1 := hh_bd seed [(i : Int), 71]
  have e1 : (khash seed [(i : Int), 71] * khash seed [(i : Int), 71]).tmod 2147483647 = khash seed [(i : Int), 71] * khash seed [(i : Int), 71] % 2147483647 := Int.tmod_eq_emod_of_nonneg (by omega)
  have e2 : (khash seed [(i : Int), 71] * khash seed [(i : Int), 71] % 2147483647).tmod 1019 = rnd seed i := Int.tmod_eq_emod_of_nonneg (by omega)
  have h2 := khash_bd seed [(i : Int), 71]
  (refine Fn_of tysOk Tryz.func130 rfl rfl (by simp [AV.len, Tryz.f130]) ⟨?_⟩; conv => whnf)
  (repeat' first | ((with_reducible show ∃ _ : Bool, _); first | (refine ⟨_, [], _, [], _, _, c1, rfl, trivial, zW, Nx.mk ?_⟩; conv => whnf)|(refine ⟨_, [], _, [], _, _, c2, rfl, trivial, zW, Nx.mk ?_⟩; conv => whnf))  | (refine zK (fun hs => ?_) (fun hs => ?_) <;> ((try simp only [Ct.len] at hs); revert hs; intro _; conv => whnf)) | (refine zI (fun _ => ?_) (fun _ => ?_)<;> conv => whnf)|((first|refine zA ?_|refine zB ?_|refine zC ?_|refine zD ?_|refine zE ?_|refine zF ?_|refine zG ?_|fail); conv => whnf)|(refine zJ (fun _ => ?_) ?_<;> conv => whnf)|((first | refine condN Tryz.underlying4 (Nx.mk ?_) | refine zH ?_ | refine Nx.mk ?_); conv => whnf))
  (all_goals try first | contradiction | (exfalso; omega))
  all_goals
    (refine ⟨[], rfl, ⟨rfl, rfl, trivial, trivial⟩, ?_, ⟨?_, trivial⟩, fun _ => ⟨?_, trivial⟩⟩ <;> ((repeat' ((try conv => whnf); (first|exact zU|refine And.intro ?_ ?_|exact fun _ _ _ _ => Eq.refl _|refine cellJ (fun _ _ => ?_)|(refine cellB ?_; (conv => whnf); refine And.intro ?_ ?_)|exact zV|fail))) <;> (try conv => whnf)))
    all_goals (rw [e1]; exact e2)
attribute [local irreducible] rnd rvR rvL
theorem sRv_fn (seed : Int) (n : Nat) (h1 : 1 ≤ n) (hn : n ≤ 40) : Fn Tryz.prog 69 true (.cons (.I seed) (.cons (.I n) .nil)) [] (.os (rt 16)) [(16, .row 3 (.ints .i64 (rvL seed n)))] := by
  have hL := rvR_len (seed := seed) (n := n)
  have c1 := (l1In_fn (n : Int) 1 40).tt (decide_eq_true (by omega))
  have c2 := sLix_fn (rvR seed n) (by omega)
  (refine Fn_of tysOk Tryz.func69 rfl rfl (by simp [AV.len, Tryz.f69]) ⟨?_⟩; conv => whnf)
  (repeat' first | (refine zK (fun hs => ?_) (fun hs => ?_) <;> ((try simp only [Ct.len] at hs); revert hs; intro _; conv => whnf)) | (refine zI (fun _ => ?_) (fun _ => ?_)<;> conv => whnf)|((first|refine zA ?_|refine zB ?_|refine zC ?_|refine zD ?_|refine zE ?_|refine zF ?_|refine zG ?_|fail); conv => whnf)|(refine zJ (fun _ => ?_) ?_<;> conv => whnf)|((first | refine condN Tryz.underlying4 (Nx.mk ?_) | refine zH ?_ | refine Nx.mk ?_); conv => whnf))
  refine loopI tysOk [nm 7] (fun k : Nat => [(5, .os (rt (nm 7))), (6, .I k)]) (fun k => [(nm 7, some (.row 3 (.ints .i64 ((rvR seed n).take k))))]) (fun k => k ≤ n) (fun k => n - k) 0 (Nat.zero_le _) ?_ ?_
  · ((try conv => whnf); refine ⟨rfl, by rfl, ?_, ?_⟩ <;> ((repeat' ((try conv => whnf); (first|exact zU|refine And.intro ?_ ?_|exact fun _ _ _ _ => Eq.refl _|refine cellJ (fun _ _ => ?_)|(refine cellB ?_; (conv => whnf); refine And.intro ?_ ?_)|exact zV|fail))) <;> (try conv => whnf)))
  · intro k hk
    have htl : ((rvR seed n).take k).length = k := by rw [List.length_take]; omega
    by_cases hlt : k < n
    · have h5 := rvR_at (seed := seed) hlt
      have h6 := take_ap (l := rvR seed n) (i := k) (by omega) h5
      (repeat' first | ((with_reducible show ∃ _ : Bool, _); first | (refine ⟨_, [], _, [], _, _, c1, rfl, trivial, zW, Nx.mk ?_⟩; conv => whnf)|(refine ⟨_, [], _, [], _, _, sRnd_fn seed k, rfl, trivial, zW, Nx.mk ?_⟩; conv => whnf))  | (refine zK (fun hs => ?_) (fun hs => ?_) <;> ((try simp only [Ct.len] at hs); revert hs; intro _; conv => whnf)) | (refine zI (fun _ => ?_) (fun _ => ?_)<;> conv => whnf)|((first|refine zA ?_|refine zB ?_|refine zC ?_|refine zD ?_|refine zE ?_|refine zF ?_|refine zG ?_|fail); conv => whnf)|(refine zJ (fun _ => ?_) ?_<;> conv => whnf)|((first | refine condN Tryz.underlying4 (Nx.mk ?_) | refine zH ?_ | refine Nx.mk ?_); conv => whnf))
      (all_goals try first | contradiction | (exfalso; omega))
      all_goals
        refine ⟨k + 1, by omega, by omega, ?_⟩
        ((try conv => whnf); refine ⟨rfl, by rfl, ?_, ?_⟩ <;> ((repeat' ((try conv => whnf); (first|exact zU|refine And.intro ?_ ?_|exact fun _ _ _ _ => Eq.refl _|refine cellJ (fun _ _ => ?_)|(refine cellB ?_; (conv => whnf); refine And.intro ?_ ?_)|exact zV|fail))) <;> (try conv => whnf)))
        exact h6
    · obtain rfl : k = n := by omega
      have h8 : (rvR seed k).take k = rvR seed k := List.take_of_length_le (by omega)
      rw [h8]
      by_cases hx : lix (rvR seed k) < 0
      · have h9 := rvL_no hx
        (repeat' first | ((with_reducible show ∃ _ : Bool, _); first | (refine ⟨_, [], _, [], _, _, c1, rfl, trivial, zW, Nx.mk ?_⟩; conv => whnf)|(refine ⟨_, [], _, [], _, _, c2, rfl, trivial, zW, Nx.mk ?_⟩; conv => whnf))  | (refine zK (fun hs => ?_) (fun hs => ?_) <;> ((try simp only [Ct.len] at hs); revert hs; intro _; conv => whnf)) | (refine zI (fun _ => ?_) (fun _ => ?_)<;> conv => whnf)|((first|refine zA ?_|refine zB ?_|refine zC ?_|refine zD ?_|refine zE ?_|refine zF ?_|refine zG ?_|fail); conv => whnf)|(refine zJ (fun _ => ?_) ?_<;> conv => whnf)|((first | refine condN Tryz.underlying4 (Nx.mk ?_) | refine zH ?_ | refine Nx.mk ?_); conv => whnf))
        (all_goals try first | contradiction | (exfalso; omega))
        all_goals
          refine ⟨[(16, nm 7)], rfl, ?_, ?_, ?_, fun _ => ?_⟩
          · ((try conv => whnf); refine ⟨rfl, by rfl, ?_, ?_⟩ <;> ((repeat' ((try conv => whnf); (first|exact zU|refine And.intro ?_ ?_|exact fun _ _ _ _ => Eq.refl _|refine cellJ (fun _ _ => ?_)|(refine cellB ?_; (conv => whnf); refine And.intro ?_ ?_)|exact zV|fail))) <;> (try conv => whnf)))
            exact h9.symm
          all_goals ((repeat' ((try conv => whnf); (first|exact zU|refine And.intro ?_ ?_|exact fun _ _ _ _ => Eq.refl _|refine cellJ (fun _ _ => ?_)|(refine cellB ?_; (conv => whnf); refine And.intro ?_ ?_)|exact zV|fail))) <;> (try conv => whnf))
      · have h9 := rvL_yes hx
        (repeat' first | ((with_reducible show ∃ _ : Bool, _); first | (refine ⟨_, [], _, [], _, _, c1, rfl, trivial, zW, Nx.mk ?_⟩; conv => whnf)|(refine ⟨_, [], _, [], _, _, c2, rfl, trivial, zW, Nx.mk ?_⟩; conv => whnf))  | (refine zK (fun hs => ?_) (fun hs => ?_) <;> ((try simp only [Ct.len] at hs); revert hs; intro _; conv => whnf)) | (refine zI (fun _ => ?_) (fun _ => ?_)<;> conv => whnf)|((first|refine zA ?_|refine zB ?_|refine zC ?_|refine zD ?_|refine zE ?_|refine zF ?_|refine zG ?_|fail); conv => whnf)|(refine zJ (fun _ => ?_) ?_<;> conv => whnf)|((first | refine condN Tryz.underlying4 (Nx.mk ?_) | refine zH ?_ | refine Nx.mk ?_); conv => whnf))
        (all_goals try first | contradiction | (exfalso; omega))
        all_goals
          refine ⟨[(16, nm 7)], rfl, ?_, ?_, ?_, fun _ => ?_⟩
          · ((try conv => whnf); refine ⟨rfl, by rfl, ?_, ?_⟩ <;> ((repeat' ((try conv => whnf); (first|exact zU|refine And.intro ?_ ?_|exact fun _ _ _ _ => Eq.refl _|refine cellJ (fun _ _ => ?_)|(refine cellB ?_; (conv => whnf); refine And.intro ?_ ?_)|exact zV|fail))) <;> (try conv => whnf)))
            exact h9.symm
          all_goals ((repeat' ((try conv => whnf); (first|exact zU|refine And.intro ?_ ?_|exact fun _ _ _ _ => Eq.refl _|refine cellJ (fun _ _ => ?_)|(refine cellB ?_; (conv => whnf); refine And.intro ?_ ?_)|exact zV|fail))) <;> (try conv => whnf))
theorem sRv0_fn (seed : Int) (n : Nat) (h1 : n = 0 ∨ 40 < n) (h2 : n ≤ 1048576) : Fn Tryz.prog 69 true (.cons (.I seed) (.cons (.I n) .nil)) [] (.os (rt 16)) [(16, .row 3 (.ints .i64 []))] := by
  have c1 := (l1In_fn (n : Int) 1 40).res (r' := .b false) (by rw [decide_eq_false (by omega)])
  (refine Fn_of tysOk Tryz.func69 rfl rfl (by simp [AV.len, Tryz.f69]) ⟨?_⟩; conv => whnf)
  (repeat' first | (refine zK (fun hs => ?_) (fun hs => ?_) <;> ((try simp only [Ct.len] at hs); revert hs; intro _; conv => whnf)) | (refine zI (fun _ => ?_) (fun _ => ?_)<;> conv => whnf)|((first|refine zA ?_|refine zB ?_|refine zC ?_|refine zD ?_|refine zE ?_|refine zF ?_|refine zG ?_|fail); conv => whnf)|(refine zJ (fun _ => ?_) ?_<;> conv => whnf)|((first | refine condN Tryz.underlying4 (Nx.mk ?_) | refine zH ?_ | refine Nx.mk ?_); conv => whnf))
  refine loopI tysOk [nm 7] (fun k : Nat => [(5, .os (rt (nm 7))), (6, .I k)]) (fun k => [(nm 7, some (.row 3 (.ints .i64 [])))]) (fun k => k = 0) (fun k => k) 0 rfl ?_ ?_
  · ((try conv => whnf); refine ⟨rfl, by rfl, ?_, ?_⟩ <;> ((repeat' ((try conv => whnf); (first|exact zU|refine And.intro ?_ ?_|exact fun _ _ _ _ => Eq.refl _|refine cellJ (fun _ _ => ?_)|(refine cellB ?_; (conv => whnf); refine And.intro ?_ ?_)|exact zV|fail))) <;> (try conv => whnf)))
  · rintro k rfl
    (repeat' first | ((with_reducible show ∃ _ : Bool, _); first | (refine ⟨_, [], _, [], _, _, c1, rfl, trivial, zW, Nx.mk ?_⟩; conv => whnf))  | (refine zK (fun hs => ?_) (fun hs => ?_) <;> ((try simp only [Ct.len] at hs); revert hs; intro _; conv => whnf)) | (refine zI (fun _ => ?_) (fun _ => ?_)<;> conv => whnf)|((first|refine zA ?_|refine zB ?_|refine zC ?_|refine zD ?_|refine zE ?_|refine zF ?_|refine zG ?_|fail); conv => whnf)|(refine zJ (fun _ => ?_) ?_<;> conv => whnf)|((first | refine condN Tryz.underlying4 (Nx.mk ?_) | refine zH ?_ | refine Nx.mk ?_); conv => whnf))
    (all_goals try first | contradiction | (exfalso; omega))
    all_goals
      refine ⟨[(16, nm 7)], rfl, ?_, ?_, ?_, fun _ => ?_⟩
      · ((try conv => whnf); refine ⟨rfl, by rfl, ?_, ?_⟩ <;> ((repeat' ((try conv => whnf); (first|exact zU|refine And.intro ?_ ?_|exact fun _ _ _ _ => Eq.refl _|refine cellJ (fun _ _ => ?_)|(refine cellB ?_; (conv => whnf); refine And.intro ?_ ?_)|exact zV|fail))) <;> (try conv => whnf)))
      all_goals ((repeat' ((try conv => whnf); (first|exact zU|refine And.intro ?_ ?_|exact fun _ _ _ _ => Eq.refl _|refine cellJ (fun _ _ => ?_)|(refine cellB ?_; (conv => whnf); refine And.intro ?_ ?_)|exact zV|fail))) <;> (try conv => whnf))
theorem iRv_fn (seed : Int) (n : Nat) (h1 : 1 ≤ n) (hn : n ≤ 40) : Fn Tryz.prog 81 true (.cons (.I seed) (.cons (.I n) .nil)) [] (.os (rt 16)) [(16, .row 3 (.ints .i64 (rvL seed n)))] := by
  have hL := rvR_len (seed := seed) (n := n)
  have hr : (List.replicate n (0 : Int)).length = n := by simp
  have c1 := (inRange_fn (n : Int) 1 40).tt (decide_eq_true (by omega))
  have c2 := iLix_fn (rvR seed n) (by omega)
  have hz : (zeroCt ((AV.int .i64 0).cons .nil) 1 n).len = n := by
    show (List.replicate n (0 : Int)).length = n
    simp
  unfold Ct.len at hz
  (refine Fn_of tysOk Tryz.func81 rfl rfl (by simp [AV.len, Tryz.f81]) ⟨?_⟩; conv => whnf)
  (repeat' first | ((with_reducible show ∃ _ : Bool, _); first | (refine ⟨_, [], _, [], _, _, c1, rfl, trivial, zW, Nx.mk ?_⟩; conv => whnf)) | (refine ⟨n, n, rfl, rfl, Nat.le_refl _, by omega, Nx.mk ?_⟩; conv => whnf)|(refine zK (fun hs => ?_) (fun hs => ?_) <;> ((try simp only [Ct.len] at hs); revert hs; intro _; conv => whnf)) | (refine zI (fun _ => ?_) (fun _ => ?_)<;> conv => whnf)|((first|refine zA ?_|refine zB ?_|refine zC ?_|refine zD ?_|refine zE ?_|refine zF ?_|refine zG ?_|fail); conv => whnf)|(refine zJ (fun _ => ?_) ?_<;> conv => whnf)|((first | refine condN Tryz.underlying4 (Nx.mk ?_) | refine zH ?_ | refine Nx.mk ?_); conv => whnf))
  (all_goals try first | contradiction | (exfalso; omega))
  refine loopI tysOk [] (fun k : Nat => [(14, .I k)]) (fun k => [(nm 11, some (.row 3 (.ints .i64 (upN (List.replicate n 0) (rvR seed n) k))))]) (fun k => k ≤ n) (fun k => n - k) 0 (Nat.zero_le _) ?_ ?_
  · ((try conv => whnf); refine ⟨rfl, by rfl, ?_, ?_⟩ <;> ((repeat' ((try conv => whnf); (first|exact zU|refine And.intro ?_ ?_|exact fun _ _ _ _ => Eq.refl _|refine cellJ (fun _ _ => ?_)|(refine cellB ?_; (conv => whnf); refine And.intro ?_ ?_)|exact zV|fail))) <;> (try conv => whnf)))
    all_goals first | (rw [upN_zero]; done) | (rw [upN_zero]; with_unfolding_all rfl)
  · intro k hk
    have hul := upN_len (a := List.replicate n 0) (L := rvR seed n) (i := k) (by omega) (by omega)
    by_cases hlt : k < n
    · have h5 := rvR_at (seed := seed) hlt
      have h6 := upN_set (a := List.replicate n 0) (L := rvR seed n) (i := k) (by omega) (by omega) h5
      (repeat' first | ((with_reducible show ∃ _ : Bool, _); first | (refine ⟨_, [], _, [], _, _, iRnd_fn seed k, rfl, trivial, zW, Nx.mk ?_⟩; conv => whnf))  | (refine zK (fun hs => ?_) (fun hs => ?_) <;> ((try simp only [Ct.len] at hs); revert hs; intro _; conv => whnf)) | (refine zI (fun _ => ?_) (fun _ => ?_)<;> conv => whnf)|((first|refine zA ?_|refine zB ?_|refine zC ?_|refine zD ?_|refine zE ?_|refine zF ?_|refine zG ?_|fail); conv => whnf)|(refine zJ (fun _ => ?_) ?_<;> conv => whnf)|((first | refine condN Tryz.underlying4 (Nx.mk ?_) | refine zH ?_ | refine Nx.mk ?_); conv => whnf))
      (all_goals try first | contradiction | (exfalso; omega))
      all_goals
        refine ⟨k + 1, by omega, by omega, ?_⟩
        ((try conv => whnf); refine ⟨rfl, by rfl, ?_, ?_⟩ <;> ((repeat' ((try conv => whnf); (first|exact zU|refine And.intro ?_ ?_|exact fun _ _ _ _ => Eq.refl _|refine cellJ (fun _ _ => ?_)|(refine cellB ?_; (conv => whnf); refine And.intro ?_ ?_)|exact zV|fail))) <;> (try conv => whnf)))
        exact h6
    · obtain rfl : k = n := by omega
      have h8 : upN (List.replicate k 0) (rvR seed k) k = rvR seed k := by
        have := upN_all (a := List.replicate k (0 : Int)) (L := rvR seed k) (by omega)
        rwa [hr] at this
      rw [h8]
      by_cases hx : lix (rvR seed k) < 0
      · have h9 := rvL_no hx
        (repeat' first | ((with_reducible show ∃ _ : Bool, _); first | (refine ⟨_, [], _, [], _, _, c2, rfl, trivial, zW, Nx.mk ?_⟩; conv => whnf))  | (refine zK (fun hs => ?_) (fun hs => ?_) <;> ((try simp only [Ct.len] at hs); revert hs; intro _; conv => whnf)) | (refine zI (fun _ => ?_) (fun _ => ?_)<;> conv => whnf)|((first|refine zA ?_|refine zB ?_|refine zC ?_|refine zD ?_|refine zE ?_|refine zF ?_|refine zG ?_|fail); conv => whnf)|(refine zJ (fun _ => ?_) ?_<;> conv => whnf)|((first | refine condN Tryz.underlying4 (Nx.mk ?_) | refine zH ?_ | refine Nx.mk ?_); conv => whnf))
        (all_goals try first | contradiction | (exfalso; omega))
        all_goals
          refine ⟨[(16, nm 11)], rfl, ?_, ?_, ?_, fun _ => ?_⟩
          · ((try conv => whnf); refine ⟨rfl, by rfl, ?_, ?_⟩ <;> ((repeat' ((try conv => whnf); (first|exact zU|refine And.intro ?_ ?_|exact fun _ _ _ _ => Eq.refl _|refine cellJ (fun _ _ => ?_)|(refine cellB ?_; (conv => whnf); refine And.intro ?_ ?_)|exact zV|fail))) <;> (try conv => whnf)))
            exact h9.symm
          all_goals ((repeat' ((try conv => whnf); (first|exact zU|refine And.intro ?_ ?_|exact fun _ _ _ _ => Eq.refl _|refine cellJ (fun _ _ => ?_)|(refine cellB ?_; (conv => whnf); refine And.intro ?_ ?_)|exact zV|fail))) <;> (try conv => whnf))
      · have h9 := rvL_yes hx
        (repeat' first | ((with_reducible show ∃ _ : Bool, _); first | (refine ⟨_, [], _, [], _, _, c2, rfl, trivial, zW, Nx.mk ?_⟩; conv => whnf))  | (refine zK (fun hs => ?_) (fun hs => ?_) <;> ((try simp only [Ct.len] at hs); revert hs; intro _; conv => whnf)) | (refine zI (fun _ => ?_) (fun _ => ?_)<;> conv => whnf)|((first|refine zA ?_|refine zB ?_|refine zC ?_|refine zD ?_|refine zE ?_|refine zF ?_|refine zG ?_|fail); conv => whnf)|(refine zJ (fun _ => ?_) ?_<;> conv => whnf)|((first | refine condN Tryz.underlying4 (Nx.mk ?_) | refine zH ?_ | refine Nx.mk ?_); conv => whnf))
        (all_goals try first | contradiction | (exfalso; omega))
        all_goals
          refine ⟨[(16, nm 11)], rfl, ?_, ?_, ?_, fun _ => ?_⟩
          · ((try conv => whnf); refine ⟨rfl, by rfl, ?_, ?_⟩ <;> ((repeat' ((try conv => whnf); (first|exact zU|refine And.intro ?_ ?_|exact fun _ _ _ _ => Eq.refl _|refine cellJ (fun _ _ => ?_)|(refine cellB ?_; (conv => whnf); refine And.intro ?_ ?_)|exact zV|fail))) <;> (try conv => whnf)))
            exact h9.symm
          all_goals ((repeat' ((try conv => whnf); (first|exact zU|refine And.intro ?_ ?_|exact fun _ _ _ _ => Eq.refl _|refine cellJ (fun _ _ => ?_)|(refine cellB ?_; (conv => whnf); refine And.intro ?_ ?_)|exact zV|fail))) <;> (try conv => whnf))
theorem sCopy_fn (xs : List (List Int)) (h : xs.length ≤ 1048576) (hx : ∀ i, i < xs.length → (xs.getD i default).length ≤ 1048576) : Fn Tryz.prog 112 true (.cons (.rs false xs.length 1 (cellsA ints_R_i64 xs)) .nil) [] (.os (rt 16)) [(16, .row 22 (.tab xs.length 1 (cellsA ints_O_i64 xs)))] := by
  (refine Fn_of tysOk Tryz.func112 rfl rfl (by simp [AV.len, Tryz.f112]) ⟨?_⟩; conv => whnf)
  (repeat' first | (refine zK (fun hs => ?_) (fun hs => ?_) <;> ((try simp only [Ct.len] at hs); revert hs; intro _; conv => whnf)) | (refine zI (fun _ => ?_) (fun _ => ?_)<;> conv => whnf)|((first|refine zA ?_|refine zB ?_|refine zC ?_|refine zD ?_|refine zE ?_|refine zF ?_|refine zG ?_|fail); conv => whnf)|(refine zJ (fun _ => ?_) ?_<;> conv => whnf)|((first | refine condN Tryz.underlying4 (Nx.mk ?_) | refine zH ?_ | refine Nx.mk ?_); conv => whnf))
  refine loopI tysOk [nm 5] (fun k : Nat => [(3, .os (rt (nm 5))), (4, .I k)]) (fun k => [(nm 5, some (.row 22 (.tab k 1 (cellsA ints_O_i64 xs))))]) (fun k => k ≤ xs.length) (fun k => xs.length - k) 0 (Nat.zero_le _) ?_ ?_
  · ((try conv => whnf); refine ⟨rfl, by rfl, ?_, ?_⟩ <;> ((repeat' ((try conv => whnf); (first|exact zU|refine And.intro ?_ ?_|exact fun _ _ _ _ => Eq.refl _|refine cellJ (fun _ _ => ?_)|(refine cellB ?_; (conv => whnf); refine And.intro ?_ ?_)|exact zV|fail))) <;> (try conv => whnf)))
    all_goals omega
  · intro k hk
    by_cases hlt : k < xs.length
    · have h5 := hx k hlt
      (repeat' first | (refine zK (fun hs => ?_) (fun hs => ?_) <;> ((try simp only [Ct.len] at hs); revert hs; intro _; conv => whnf)) | (refine zI (fun _ => ?_) (fun _ => ?_)<;> conv => whnf)|((first|refine zA ?_|refine zB ?_|refine zC ?_|refine zD ?_|refine zE ?_|refine zF ?_|refine zG ?_|fail); conv => whnf)|(refine zJ (fun _ => ?_) ?_<;> conv => whnf)|((first | refine condN Tryz.underlying4 (Nx.mk ?_) | refine zH ?_ | refine Nx.mk ?_); conv => whnf))
      (all_goals try first | contradiction | (exfalso; omega))
      all_goals
        refine ⟨k + 1, by omega, by omega, ?_⟩
        ((try conv => whnf); refine ⟨rfl, by rfl, ?_, ?_⟩ <;> ((repeat' ((try conv => whnf); (first|exact zU|refine And.intro ?_ ?_|exact fun _ _ _ _ => Eq.refl _|refine cellJ (fun _ _ => ?_)|(refine cellB ?_; (conv => whnf); refine And.intro ?_ ?_)|exact zV|fail))) <;> (try conv => whnf)))
        all_goals
          rename_i j hj
          have hj : j < k + 1 := hj
          by_cases e : j = k
          · subst e
            simp only [Ct.len, Nat.beq_refl, Bool.and_true, Bool.true_and, cond_true, Blk.kill, Ct.kill, Blk.asOwn, cellsA, List.nil_append]
            ((repeat' ((try conv => whnf); (first|exact zU|refine And.intro ?_ ?_|exact fun _ _ _ _ => Eq.refl _|refine cellJ (fun _ _ => ?_)|(refine cellB ?_; (conv => whnf); refine And.intro ?_ ?_)|exact zV|fail))) <;> (try conv => whnf))
          · have e2 : j < k := by omega
            simp only [Ct.len, beq_ne e, Bool.false_and, cond_false, Ct.kill, Ct.cell, blt_of e2, cond_true, cellsA]
            ((repeat' ((try conv => whnf); (first|exact zU|refine And.intro ?_ ?_|exact fun _ _ _ _ => Eq.refl _|refine cellJ (fun _ _ => ?_)|(refine cellB ?_; (conv => whnf); refine And.intro ?_ ?_)|exact zV|fail))) <;> (try conv => whnf))
    · obtain rfl : k = xs.length := by omega
      (repeat' first | (refine zK (fun hs => ?_) (fun hs => ?_) <;> ((try simp only [Ct.len] at hs); revert hs; intro _; conv => whnf)) | (refine zI (fun _ => ?_) (fun _ => ?_)<;> conv => whnf)|((first|refine zA ?_|refine zB ?_|refine zC ?_|refine zD ?_|refine zE ?_|refine zF ?_|refine zG ?_|fail); conv => whnf)|(refine zJ (fun _ => ?_) ?_<;> conv => whnf)|((first | refine condN Tryz.underlying4 (Nx.mk ?_) | refine zH ?_ | refine Nx.mk ?_); conv => whnf))
      (all_goals try first | contradiction | (exfalso; omega))
      all_goals
        refine ⟨[(16, nm 5)], rfl, ?_, ?_, ?_, fun _ => ?_⟩
        · ((try conv => whnf); refine ⟨rfl, by rfl, ?_, ?_⟩ <;> ((repeat' ((try conv => whnf); (first|exact zU|refine And.intro ?_ ?_|exact fun _ _ _ _ => Eq.refl _|refine cellJ (fun _ _ => ?_)|(refine cellB ?_; (conv => whnf); refine And.intro ?_ ?_)|exact zV|fail))) <;> (try conv => whnf)))
        all_goals ((repeat' ((try conv => whnf); (first|exact zU|refine And.intro ?_ ?_|exact fun _ _ _ _ => Eq.refl _|refine cellJ (fun _ _ => ?_)|(refine cellB ?_; (conv => whnf); refine And.intro ?_ ?_)|exact zV|fail))) <;> (try conv => whnf))
end Go.Proofs.YtbepgedckfhifaaGreat
