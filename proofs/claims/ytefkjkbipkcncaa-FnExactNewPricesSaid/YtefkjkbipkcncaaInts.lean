/-
  The laws' helpers at []int: toIntS, eqIntS, szIntS, markIntS, heldIntS.
-/
import Derived.Test.YtefkjkbipkcncaaMem
import Derived.Laws.MakeOwn
import Derived.Deep.OwnRows
namespace Go.Proofs.Ytefkjkbipkcncaa
open Go.ChangeShapes Go.WideShapes Go.ChangeAt Go.RowKit
set_option linter.unusedVariables false

/-- The world is as it was, but for draws. -/
def Same (w w' : World) : Prop := ∃ n, w' = w.drewN n
theorem Same.refl (w : World) : Same w w := ⟨0, rfl⟩
theorem Same.ext {w w' : World} (h : Same w w') : Ext w w' := by
  obtain ⟨n, rfl⟩ := h
  exact (Ext.refl w).drewN n

set_option maxHeartbeats 400000 in
theorem eq_ints (A B : Option Addr) (n c d : Nat) (xs : List Int) (hn : n ≤ 4611686018427387904) (w : World) (ha : Rd w 1 A n (ints xs)) (hb : Rd w 1 B n (ints xs)) :
    Calls Try.prog 30 #[.slice A n c, .slice B n d] w fun e w' => e = .returned (.bool true) ∧ Same w w' := by
  have h0 : ((n : Int) != n) = false := by simp
  go_enter Try.func30, Try.ntmps30
  go_wp2
  go_loopw [5] (fun i wr => ∃ k q : Nat, k ≤ n ∧ i = .int .i64 k ∧ wr = w.drewN q) (fun i _ => n - (intOf i).toNat)
  case atStart => exact ⟨0, 0, Nat.zero_le _, rfl, rfl⟩
  case round =>
    obtain ⟨k, q, hk, rfl, rfl⟩ := hrel
    by_cases hlt : k < n
    case pos =>
      obtain ⟨b1, o1, x, rfl, _, hx, hc⟩ := ha.int hlt
      obtain ⟨b2, o2, y, rfl, _, hy, hd⟩ := hb.int hlt
      obtain rfl : x = y := by rw [hx] at hy; injection hy
      clear hx hy
      have k0 : (0 : Int) ≤ k := by omega
      have k1 : (k : Int) < n := by omega
      go_wp2
      go_quiet (fail)
      go_wp2
      go_roundw
      case rel => exact ⟨k + 1, _, by omega, by go_num, rfl⟩
      case measure => simp [intOf]; omega
    case neg =>
      go_wp2
      go_ret
      exact ⟨rfl, q, rfl⟩

theorem eq_ints_e (A B : Option Addr) (n c d : Nat) (xs : List Int) (hn : n ≤ 4611686018427387904) (w : World) (ha : Rd w 1 A n (ints xs)) (hb : Rd w 1 B n (ints xs)) :
    Calls Try.prog 30 #[.slice A n c, .slice B n d] w fun e w' => e = .returned (.bool true) ∧ Ext w w' := (eq_ints A B n c d xs hn w ha hb).mono fun _ _ ⟨h1, h2⟩ => ⟨h1, h2.ext⟩
/-! ### toIntS -/
theorem take_zeros (xs : List Int) (n k : Nat) (x : Int) (hl : xs.length = n) (hk : k < n) (hx : xs[k]? = some x) :
    (ints (xs.take k ++ List.replicate (n - k) 0)).set k (.int .i64 x) = ints (xs.take (k + 1) ++ List.replicate (n - (k + 1)) 0) := by
  have h1 : n - k = (n - (k + 1)) + 1 := by omega
  rw [h1, List.take_add_one, hx, List.replicate_succ]
  simp only [ints, List.map_append, List.map_cons, Option.toList_some, List.append_assoc]
  rw [List.set_append_right _ _ (by simp; omega)]
  have h3 : k - min k xs.length = 0 := by omega
  simp [h3]

/-- A slice of the call's own of full length, its block known. -/
def Full (w : World) (lo : Nat) (e : TypeId) (size n : Nat) (cs : List Value) (en : Ending) (w' : World) : Prop :=
  ∃ g, lo ≤ g ∧ en = .returned (.slice (some ⟨g, 0, none⟩) n n) ∧ w'.ownsRow lo e size (.slice (some ⟨g, 0, none⟩) n n) n cs ∧ Ext w w'

set_option maxHeartbeats 400000 in
theorem to_ints (A : Option Addr) (n c : Nat) (xs : List Int) (hn : n ≤ 17592186044416) (w : World) (ha : Rd w 1 A n (ints xs)) :
    Calls Try.prog 27 #[.slice A n c] w (Full w w.heap.size 3 1 n (ints xs)) := by
  have hlen := ha.len
  have hmk := fun W => run_make_row' (P := Try.prog) 38 3 (.int .i64 0) 8 Try.underlying38 (by kernel_rfl) rfl .i64 .i64 n (by omega) (by omega) W
  have hown : (w.alloc (.cells (madeCells #[.int .i64 0] n) 3)).ownsRow w.heap.size 3 1 (.slice (some ⟨w.heap.size, 0, none⟩) n n) n (ints (xs.take 0 ++ List.replicate (n - 0) 0)) := by
    refine ⟨by simp, .inr ⟨w.heap.size, n, _, rfl, Nat.le_refl _, heap_alloc_new w _, Nat.le_refl _, by unfold maxLen; omega, by simp [size_madeCells], ?_⟩⟩
    rw [toList_madeCells_one]
    simp
  have HO := Lib.hid hown
  have HL := Lib.hid hlen
  clear hown hlen
  go_enter Try.func27, Try.ntmps27
  go_wp2
  clear hmk
  go_loopw [4] (fun i wr => ∃ k : Nat, k ≤ n ∧ i = .int .i64 k ∧ wr.ownsRow w.heap.size 3 1 (.slice (some ⟨w.heap.size, 0, none⟩) n n) n (ints (xs.take k ++ List.replicate (n - k) 0)) ∧ Ext w wr) (fun i _ => n - (intOf i).toNat)
  case atStart => exact ⟨0, Nat.zero_le _, rfl, HO.out, (Ext.refl w).alloc _⟩
  case round =>
    obtain ⟨k, hk, rfl, ho, he⟩ := hrel
    by_cases hlt : k < n
    case pos =>
      obtain ⟨b, o, x, rfl, hb, hx, hc⟩ := (ha.ext he).int hlt
      obtain ⟨hst, hgr⟩ := ho.stored k (.int .i64 x)
      have hcell := ho.cellAt k (by omega)
      have hfz := ho.frozenAt k
      obtain ⟨u, hu⟩ : ∃ u, (ints (xs.take k ++ List.replicate (n - k) 0))[k]? = some u := ⟨_, List.getElem?_eq_getElem (by have := ho.1; omega)⟩
      rw [hu] at hcell
      rw [take_zeros xs n k x HL.out hlt hx] at hst
      have HS := Lib.hid hst
      have HE := Lib.hid (he.setCell (p := ⟨w.heap.size, k, none⟩) (Nat.le_refl _) (.int .i64 x))
      clear ho hst hgr hx hu
      go_wp2
      go_roundw
      case rel => exact ⟨k + 1, by omega, by go_num, HS.out, HE.out⟩
      case measure => simp [intOf]; omega
    case neg =>
      have hkn : xs.take k ++ List.replicate (n - k) 0 = xs := by rw [show n - k = 0 by omega, List.take_of_length_le (by have := HL.out; omega)]; simp
      rw [hkn] at ho
      have HO2 := Lib.hid ho
      clear hkn ho
      go_wp2
      go_ret
      exact ⟨_, Nat.le_refl _, rfl, HO2.out, he⟩

/-! ### szIntS -/
theorem sz_ints (A : Option Addr) (n c : Nat) (l : Int) (hl : l ≤ 1048576) (hl0 : 0 ≤ l) (hn : n ≤ 9223372036854775807) (w : World) :
    Calls Try.prog 75 #[.slice A n c, .int .i64 l] w fun e w' => e = .returned (.int .i64 (if l < n then -1 else l - n)) ∧ w = w' := by
  by_cases h : l < n
  case pos =>
    rw [if_pos h]
    go_enter Try.func75, Try.ntmps75
    go_wp2
    go_ret
    exact ⟨rfl, rfl⟩
  rw [if_neg h]
  go_enter Try.func75, Try.ntmps75
  go_wp2
  go_ret
  exact ⟨rfl, rfl⟩

/-! ### markIntS, heldIntS -/
def upfrom (k : Int) (n : Nat) : List Int := (List.range n).map fun (i : Nat) => k + (i : Int)
theorem upfrom_len (k : Int) (n : Nat) : (upfrom k n).length = n := by simp [upfrom]
theorem upfrom_get (k : Int) (n i : Nat) (h : i < n) : (upfrom k n)[i]? = some (k + (i : Int)) := by simp [upfrom, h]
theorem mark_set (k : Int) (xs : List Int) (i : Nat) (h : i < xs.length) : (ints (upfrom k i ++ xs.drop i)).set i (.int .i64 (k + (i : Int))) = ints (upfrom k (i + 1) ++ xs.drop (i + 1)) := by
  rw [List.drop_eq_getElem_cons h]
  simp only [ints, List.map_append, List.map_cons]
  rw [List.set_append_right _ _ (by simp [upfrom])]
  simp [upfrom, List.range_succ]

set_option maxHeartbeats 400000 in
theorem mark_ints (v : Value) (base n : Nat) (xs : List Int) (k : Int) (hk0 : 0 ≤ k) (hk : k + n ≤ 4611686018427387904) (w : World) (hown : w.ownsRow base 3 1 v n (ints xs)) :
    Calls Try.prog 48 #[v, .int .i64 k] w fun e w' => e = .returned (.int .i64 (k + n)) ∧ w'.ownsRow base 3 1 v n (ints (upfrom k n)) ∧ w.grownBy w' v.ownBlock := by
  have hlen : xs.length = n := by simpa using hown.1
  obtain ⟨A, c, rfl, hc1, hc2⟩ := own_form hown
  have HL := Lib.hid hlen
  clear hlen
  go_enter Try.func48, Try.ntmps48
  go_wp2
  go_loopw [1, 5] (fun t i wr => ∃ j : Nat, j ≤ n ∧ i = .int .i64 j ∧ t = .int .i64 (k + j) ∧ wr.ownsRow base 3 1 (.slice A n c) n (ints (upfrom k j ++ xs.drop j)) ∧ w.grownBy wr (Value.slice A n c).ownBlock) (fun _ i _ => n - (intOf i).toNat)
  case atStart => exact ⟨0, Nat.zero_le _, rfl, by simp, by simpa [upfrom] using hown, World.grownBy.refl _ _⟩
  case round =>
    obtain ⟨j, hj, rfl, rfl, ho, hg⟩ := hrel
    by_cases hlt : j < n
    case pos =>
      obtain ⟨g, cap, hv, hb, hgl⟩ := ho.form (by omega)
      injection hv with hA _ hcap
      subst hA hcap
      obtain ⟨hst, hgr⟩ := ho.stored j (.int .i64 (k + (j : Int)))
      have hcell := ho.cellAt j (by omega)
      have hfz := ho.frozenAt j
      obtain ⟨u, hu⟩ : ∃ u, (ints (upfrom k j ++ xs.drop j))[j]? = some u := ⟨_, List.getElem?_eq_getElem (by have := ho.1; omega)⟩
      rw [hu] at hcell
      rw [mark_set k xs j (by have := HL.out; omega)] at hst
      have HS := Lib.hid hst
      have HG := Lib.hid (hg.trans hgr)
      clear ho hst hgr hu
      go_wp2
      go_roundw
      case rel => exact ⟨j + 1, by omega, by go_num, by go_num, HS.out, HG.out⟩
      case measure => simp [intOf]; omega
    case neg =>
      obtain rfl : j = n := by omega
      rw [List.drop_of_length_le (by have := HL.out; omega), List.append_nil] at ho
      go_wp2
      go_ret
      exact ⟨rfl, ho, hg⟩

set_option maxHeartbeats 400000 in
theorem held_ints (A : Option Addr) (n c : Nat) (k : Int) (hk0 : 0 ≤ k) (hk : k + n ≤ 4611686018427387904) (w : World) (ha : Rd w 1 A n (ints (upfrom k n))) :
    Calls Try.prog 64 #[.slice A n c, .int .i64 k] w fun e w' => e = .returned (.int .i64 (k + n)) ∧ Same w w' := by
  go_enter Try.func64, Try.ntmps64
  go_wp2
  go_loopw [1, 5] (fun t i wr => ∃ j q : Nat, j ≤ n ∧ i = .int .i64 j ∧ t = .int .i64 (k + j) ∧ wr = w.drewN q) (fun _ i _ => n - (intOf i).toNat)
  case atStart => exact ⟨0, 0, Nat.zero_le _, rfl, by simp, rfl⟩
  case round =>
    obtain ⟨j, q, hj, rfl, rfl, rfl⟩ := hrel
    by_cases hlt : j < n
    case pos =>
      obtain ⟨b1, o1, x, rfl, _, hx, hc⟩ := ha.int hlt
      rw [upfrom_get k n j hlt] at hx
      obtain rfl : k + (j : Int) = x := by injection hx
      clear hx
      have k0 : (0 : Int) ≤ j := by omega
      have k1 : (j : Int) < n := by omega
      go_wp2
      go_roundw
      case rel => exact ⟨j + 1, _, by omega, by go_num, by go_num, rfl⟩
      case measure => simp [intOf]; omega
    case neg =>
      obtain rfl : j = n := by omega
      go_wp2
      go_ret
      exact ⟨rfl, q, rfl⟩
end Go.Proofs.Ytefkjkbipkcncaa
