/-
  Slices of edges: the laws' helpers.
-/
import Derived.Test.YtefkjkbipkcncaaTri
import Derived.Test.YtefkjkbipkcncaaRange
import Derived.Deep.RegionHeld3
namespace Go.Proofs.Ytefkjkbipkcncaa
open Go.ChangeShapes Go.WideShapes Go.ChangeAt Go.RowKit
set_option linter.unusedVariables false

theorem info_edge : ∃ i : TypeInfo, Try.prog.info? 97 = some i ∧ i.zero = some (.agg #[.int .i64 0, .int .i64 0, .int .i64 0]) ∧ i.size = 3 ∧ i.bytes = 24 :=
  info_parts (show (Try.prog.info? 97).map (fun i => (i.zero, i.size, i.bytes)) = some (some (.agg #[.int .i64 0, .int .i64 0, .int .i64 0]), 3, 24) by kernel_rfl)

theorem make_edge (n : Nat) (hn : n ≤ 1000000000000) (w : World) : (Instr.makeSlice 41 (.int .i64 (n : Int)) (.int .i64 (n : Int))).run Try.prog w = .ok (.slice (some ⟨w.heap.size, 0, none⟩) n n) (w.alloc (.cells (madeCells #[.int .i64 0, .int .i64 0, .int .i64 0] (n * 3)) 97)) := by
  obtain ⟨i, hi, hz, hs, hb⟩ := info_edge
  have := run_make (P := Try.prog) w 41 97 i _ Try.underlying41 hi hz .i64 .i64 n n (by omega) (by omega) (by rw [hb]; omega) (by omega)
  simp only [Int.toNat_natCast, hs] at this
  exact this

/-- append at []Edge: the row is the call's own. -/
theorem wpList_append_edge (w : World) {ops : Array Oper} {rest : List Oper} {o : Oper} {a : Act} {Q : Exit → Act → World → Prop} (hgd : o.guard = none) (s x : Operand)
    (ho : o.op = .call { callee := .builtin .append, args := #[s, x], argTypes := #[41, 41] })
    (base : Nat) (v : Value) (n : Nat) (xs : List Tri) (hs : a.eval s = v) (hown : w.ownsRow base 97 3 v n (tris xs))
    (A : Option Addr) (m c : Nat) (news : List Tri) (hx : a.eval x = .slice A m c) (hr : Rd w 3 A m (tris news))
    (h63 : n + m ≤ 1000000000000) (hbase : base ≤ w.heap.size)
    (h : ∀ v' w', w'.ownsRow base 97 3 v' (n + m) (tris (xs ++ news)) → w.grownBy w' v.ownBlock → (v'.ownBlock = v.ownBlock ∨ v'.ownBlock = some w.heap.size) → wpList Try.prog ops Q rest (a.put o.dst v') w') : wpList Try.prog ops Q (o :: rest) a w := by
  obtain ⟨i0, hi, hz0, hz1, hz2⟩ := info_edge
  refine wpList_append_rd w hgd s x _ ho base _ i0 _ 3 24 Try.underlying41 hi hz0 hz1 hz2 rfl (by omega) v n _ hs hown A m c _ hx hr (tris_one _) (by unfold maxLen; omega) (by omega) hbase ?_
  intro v' w' h1 h2 h3
  refine h v' w' ?_ h2 h3
  rw [tris_append]
  exact h1

theorem to_edge (a b c : Int) (w : World) : Calls Try.prog 96 #[.agg #[.int .i64 a, .int .i64 b, .int .i64 c]] w fun e w' => e = .returned (.agg #[.int .i64 a, .int .i64 b, .int .i64 c]) ∧ Ext w w' := by
  go_enter Try.func96, Try.ntmps96
  go_wp2
  exact bodyPost_ret (v := .agg #[.int .i64 a, .int .i64 b, .int .i64 c]) (by simp [results, Try.results96, go_sem]) rfl ⟨rfl, (((Ext.refl _).alloc _).alloc _).alloc _⟩
theorem eq_edge (a b c : Int) (w : World) : Calls Try.prog 97 #[.agg #[.int .i64 a, .int .i64 b, .int .i64 c], .agg #[.int .i64 a, .int .i64 b, .int .i64 c]] w fun e w' => e = .returned (.bool true) ∧ Ext w w' := by
  go_enter Try.func97, Try.ntmps97
  go_wp2
  go_ret
  exact ⟨rfl, ((Ext.refl _).alloc _).alloc _⟩
set_option maxHeartbeats 800000 in
theorem to_edges (A : Option Addr) (n c : Nat) (xs : List Tri) (hn : n ≤ 1048576) (w : World) (ha : Rd w 3 A n (tris xs)) :
    Calls Try.prog 70 #[.slice A n c] w (Full w w.heap.size 97 3 n (tris xs)) := by
  have hlen := ha.trilen
  have hmk := fun W => make_edge n (by omega) W
  have hown : (w.alloc (.cells (madeCells #[.int .i64 0, .int .i64 0, .int .i64 0] (n * 3)) 97)).ownsRow w.heap.size 97 3 (.slice (some ⟨w.heap.size, 0, none⟩) n n) n (tris (xs.take 0 ++ List.replicate (n - 0) zeroTri)) := by
    refine ⟨by rw [tris_len]; simp, .inr ⟨w.heap.size, n, _, rfl, Nat.le_refl _, heap_alloc_new w _, Nat.le_refl _, by unfold maxLen; omega, by simp [size_madeCells], ?_⟩⟩
    rw [made_tris]
    rw [List.take_of_length_le (by rw [tris_len]; simp)]
    simp
  have HO := Lib.hid hown
  have HL := Lib.hid hlen
  clear hown hlen
  go_enter Try.func70, Try.ntmps70
  go_wp2
  clear hmk
  go_loopw [4] (fun i wr => ∃ k : Nat, k ≤ n ∧ i = .int .i64 k ∧ wr.ownsRow w.heap.size 97 3 (.slice (some ⟨w.heap.size, 0, none⟩) n n) n (tris (xs.take k ++ List.replicate (n - k) zeroTri)) ∧ Ext w wr) (fun i _ => n - (intOf i).toNat)
  case atStart => exact ⟨0, Nat.zero_le _, rfl, HO.out, (Ext.refl w).alloc _⟩
  case round =>
    obtain ⟨k, hk, rfl, ho, he⟩ := hrel
    by_cases hlt : k < n
    case pos =>
      obtain ⟨b, o, e, rfl, hb, hx, hc0, hc1, hc2⟩ := (ha.ext he).tri hlt
      have HX := Lib.hid hx
      have HE := Lib.hid ho
      clear hx ho
      go_wp2_with fail
      refine (to_edge _ _ _ _).mono ?_
      rintro e1 w1 ⟨rfl, b1⟩
      have ho1 := own_ext HE.out b1
      have hce : ∀ j, j < n * 3 → ∃ u, w1.cell? ⟨w.heap.size, j, none⟩ = some u := fun j hj => ⟨_, (ho1.cellAt j hj).trans (List.getElem?_eq_getElem (by have := ho1.1; omega))⟩
      obtain ⟨u0, hu0⟩ := hce (k * 3) (by omega)
      obtain ⟨u1, hu1⟩ := hce (k * 3 + 1) (by omega)
      obtain ⟨u2, hu2⟩ := hce (k * 3 + 2) (by omega)
      have hf0 := ho1.frozenAt (k * 3)
      have hf1 := ho1.frozenAt (k * 3 + 1)
      have hf2 := ho1.frozenAt (k * 3 + 2)
      obtain ⟨s0, _⟩ := ho1.stored (k * 3) (.int .i64 e.a)
      obtain ⟨s1, _⟩ := s0.stored (k * 3 + 1) (.int .i64 e.b)
      obtain ⟨s2, _⟩ := s1.stored (k * 3 + 2) (.int .i64 e.c)
      rw [tris_set _ _ _ (by simp; have := HL.out; omega), take_set_tri xs n k e HL.out hlt HX.out] at s2
      have HS := Lib.hid s2
      have e1 := he.trans b1
      have HEE := Lib.hid (((e1.setCell (p := ⟨w.heap.size, k * 3, none⟩) (Nat.le_refl _) (.int .i64 e.a)).setCell (p := ⟨w.heap.size, k * 3 + 1, none⟩) (Nat.le_refl _) (.int .i64 e.b)).setCell (p := ⟨w.heap.size, k * 3 + 2, none⟩) (Nat.le_refl _) (.int .i64 e.c))
      clear ho1 s0 s1 s2 hce
      go_wp2_with fail
      go_roundw
      case rel => exact ⟨k + 1, by omega, by go_num, HS.out, HEE.out⟩
      case measure => simp [intOf]; omega
    case neg =>
      have hkn : xs.take k ++ List.replicate (n - k) zeroTri = xs := by rw [show n - k = 0 by omega, List.take_of_length_le (by have := HL.out; omega)]; simp
      rw [hkn] at ho
      have HO2 := Lib.hid ho
      clear hkn ho
      go_wp2
      go_ret
      exact ⟨_, Nat.le_refl _, rfl, HO2.out, he⟩
theorem sz_edges (A : Option Addr) (n c : Nat) (l : Int) (hl : l ≤ 1048576) (hl0 : 0 ≤ l) (hn : n ≤ 9223372036854775807) (w : World) :
    Calls Try.prog 69 #[.slice A n c, .int .i64 l] w fun e w' => e = .returned (.int .i64 (if l < n then -1 else l - n)) ∧ w = w' := by
  by_cases h : l < n
  case pos =>
    rw [if_pos h]
    go_enter Try.func69, Try.ntmps69
    go_wp2
    go_ret
    exact ⟨rfl, rfl⟩
  rw [if_neg h]
  go_enter Try.func69, Try.ntmps69
  go_wp2
  go_ret
  exact ⟨rfl, rfl⟩
set_option maxHeartbeats 400000 in
theorem eq_edges (A B : Option Addr) (n c d : Nat) (xs : List Tri) (hn : n ≤ 4611686018427387904) (w : World) (ha : Rd w 3 A n (tris xs)) (hb : Rd w 3 B n (tris xs)) :
    Calls Try.prog 71 #[.slice A n c, .slice B n d] w fun e w' => e = .returned (.bool true) ∧ Ext w w' := by
  have h0 : ((n : Int) != n) = false := by simp
  go_enter Try.func71, Try.ntmps71
  go_wp2
  go_loopw [5] (fun i wr => ∃ k : Nat, k ≤ n ∧ i = .int .i64 k ∧ Ext w wr) (fun i _ => n - (intOf i).toNat)
  case atStart => exact ⟨0, Nat.zero_le _, rfl, Ext.refl _⟩
  case round =>
    obtain ⟨k, hk, rfl, he⟩ := hrel
    by_cases hlt : k < n
    case pos =>
      obtain ⟨b1, o1, x, rfl, hb1, hx, hc0, hc1, hc2⟩ := (ha.ext he).tri hlt
      obtain ⟨b2, o2, y, rfl, hb2, hy, hd0, hd1, hd2⟩ := (hb.ext he).tri hlt
      obtain rfl : x = y := by rw [hx] at hy; injection hy
      clear hx hy
      have k0 : (0 : Int) ≤ k := by omega
      have k1 : (k : Int) < n := by omega
      go_wp2
      go_region_held3 (fun w' => (w'.cell? ⟨b1, o1 + k * 3, none⟩ = some (.int .i64 x.a) ∧ w'.cell? ⟨b1, o1 + k * 3 + 1, none⟩ = some (.int .i64 x.b) ∧ w'.cell? ⟨b1, o1 + k * 3 + 2, none⟩ = some (.int .i64 x.c) ∧ w'.cell? ⟨b2, o2 + k * 3, none⟩ = some (.int .i64 x.a) ∧ w'.cell? ⟨b2, o2 + k * 3 + 1, none⟩ = some (.int .i64 x.b) ∧ w'.cell? ⟨b2, o2 + k * 3 + 2, none⟩ = some (.int .i64 x.c)) ∧ Ext wr w') ((refine keepS ?_ (fun hX => ?_); (focus ((repeat (first | with_reducible exact Ext.refl _ | with_reducible assumption | with_reducible refine Ext.alloc ?_ _ | with_reducible refine Ext.drew ?_ | with_reducible refine Ext.drewN ?_ _ | (with_reducible refine Ext.setCell' ?_ ?_ _; (first | (with_reducible exact Nat.le_refl _) | omega | (dsimp only; omega) | (simp only [World.size_alloc]; omega))) | (with_reducible apply Ext.trans'; with_reducible assumption) | exact (Ext.refl _).drew | (refine Ext.drew ?_; assumption))); done)); (refine ⟨?_, ?_, ?_, ?_, ?_, ?_⟩ <;> (refine (hX.cell _ _ ?_).trans ?_; omega; assumption)))) (first | (go_at_call 97; refine (eq_edge _ _ _ _).mono ?_; rintro e v1 ⟨rfl, bv1⟩; have xv1 : Ext wr v1 := (by (repeat (first | with_reducible exact Ext.refl _ | with_reducible assumption | with_reducible refine Ext.alloc ?_ _ | with_reducible refine Ext.drew ?_ | with_reducible refine Ext.drewN ?_ _ | (with_reducible refine Ext.setCell' ?_ ?_ _; (first | (with_reducible exact Nat.le_refl _) | omega | (dsimp only; omega) | (simp only [World.size_alloc]; omega))) | (with_reducible apply Ext.trans'; with_reducible assumption) | exact (Ext.refl _).drew | (refine Ext.drew ?_; assumption)))); have qv1_0 := (xv1.cell (b1) (o1 + k * 3) (by omega)).trans hc0; have qv1_1 := (xv1.cell (b1) (o1 + k * 3 + 1) (by omega)).trans hc1; have qv1_2 := (xv1.cell (b1) (o1 + k * 3 + 2) (by omega)).trans hc2; have qv1_3 := (xv1.cell (b2) (o2 + k * 3) (by omega)).trans hd0; have qv1_4 := (xv1.cell (b2) (o2 + k * 3 + 1) (by omega)).trans hd1; have qv1_5 := (xv1.cell (b2) (o2 + k * 3 + 2) (by omega)).trans hd2))
      go_wp2
      go_roundw
      case rel => exact ⟨k + 1, by omega, by go_num, he.trans xv1⟩
      case measure => simp [intOf]; omega
    case neg =>
      go_wp2
      go_ret
      exact ⟨rfl, he⟩
set_option maxHeartbeats 1600000 in
theorem mark_edges (v : Value) (base n : Nat) (xs : List Tri) (k : Int) (hk0 : 0 ≤ k) (hk : k + 3 * n ≤ 4611686018427387904) (w : World) (hown : w.ownsRow base 97 3 v n (tris xs)) :
    Calls Try.prog 74 #[v, .int .i64 k] w fun e w' => e = .returned (.int .i64 (k + 3 * n)) ∧ w'.ownsRow base 97 3 v n (tris (upTri k n)) ∧ w.grownBy w' v.ownBlock := by
  have hlen : xs.length = n := by have := hown.1; rw [tris_len] at this; omega
  obtain ⟨A, c, rfl, hc1, hc2⟩ := own_form hown
  have HL := Lib.hid hlen
  clear hlen
  go_enter Try.func74, Try.ntmps74
  go_wp2
  go_loopw [1, 5] (fun t i wr => ∃ j : Nat, j ≤ n ∧ i = .int .i64 j ∧ t = .int .i64 (k + 3 * j) ∧ wr.ownsRow base 97 3 (.slice A n c) n (tris (upTri k j ++ xs.drop j)) ∧ w.grownBy wr (Value.slice A n c).ownBlock) (fun _ i _ => n - (intOf i).toNat)
  case atStart => exact ⟨0, Nat.zero_le _, rfl, by simp, by simpa [upTri] using hown, World.grownBy.refl _ _⟩
  case round =>
    obtain ⟨j, hj, rfl, rfl, ho, hg⟩ := hrel
    by_cases hlt : j < n
    case pos =>
      obtain ⟨g, cap, hv, hb, hgl⟩ := ho.form (by omega)
      injection hv with hA _ hcap
      subst hA hcap
      have hce : ∀ i, i < n * 3 → ∃ u, wr.cell? ⟨g, i, none⟩ = some u := fun i hi => ⟨_, (ho.cellAt i hi).trans (List.getElem?_eq_getElem (by have := ho.1; omega))⟩
      obtain ⟨u0, hu0⟩ := hce (j * 3) (by omega)
      obtain ⟨u1, hu1⟩ := hce (j * 3 + 1) (by omega)
      obtain ⟨u2, hu2⟩ := hce (j * 3 + 2) (by omega)
      have hf0 := ho.frozenAt (j * 3)
      have hf1 := ho.frozenAt (j * 3 + 1)
      have hf2 := ho.frozenAt (j * 3 + 2)
      obtain ⟨s0, r0⟩ := ho.stored (j * 3) (.int .i64 (k + 3 * (j : Int)))
      obtain ⟨s1, r1⟩ := s0.stored (j * 3 + 1) (.int .i64 (k + 3 * (j : Int) + 1))
      obtain ⟨s2, r2⟩ := s1.stored (j * 3 + 2) (.int .i64 (k + 3 * (j : Int) + 1 + 1))
      have hts := tris_set (upTri k j ++ xs.drop j) j ⟨k + 3 * (j : Int), k + 3 * (j : Int) + 1, k + 3 * (j : Int) + 1 + 1⟩ (by simp [upTri]; have := HL.out; omega)
      dsimp only at hts
      rw [hts, upTri_set k xs j (by have := HL.out; omega)] at s2
      have HS := Lib.hid s2
      have HG := Lib.hid (((hg.trans r0).trans r1).trans r2)
      clear ho s0 s1 s2 r0 r1 r2 hce hts
      go_wp2
      go_roundw
      case rel => exact ⟨j + 1, by omega, by go_num, by go_num, HS.out, HG.out⟩
      case measure => simp [intOf]; omega
    case neg =>
      obtain rfl : j = n := by omega
      rw [List.drop_of_length_le (by have := HL.out; omega), List.append_nil] at ho
      go_wp2
      go_ret
      exact ⟨rfl, ho, hg⟩

end Go.Proofs.Ytefkjkbipkcncaa
