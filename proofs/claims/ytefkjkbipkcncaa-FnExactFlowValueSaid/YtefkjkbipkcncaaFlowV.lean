/-
  FlowValue of the program and of the reference.
-/
import Derived.Test.YtefkjkbipkcncaaSumSp
import Derived.Deep.RegionHeld3
namespace Go.Proofs.Ytefkjkbipkcncaa
open Go.ChangeShapes Go.WideShapes Go.ChangeAt Go.RowKit
set_option linter.unusedVariables false

theorem OwnPost.form {w : World} {e : TypeId} {size n : Nat} {cs : List Value} {en : Ending} {w' : World} (h : OwnPost w e size n cs en w') : ∃ A c, en = .returned (.slice A n c) ∧ w'.ownsRow w.heap.size e size (.slice A n c) n cs ∧ Ext w w' := by
  obtain ⟨v, rfl, ho, he⟩ := h
  obtain ⟨A, c, rfl, _⟩ := own_form ho
  exact ⟨A, c, rfl, ho, he⟩
def OwnS (w : World) (e : TypeId) (size n : Nat) (cs : List Value) (en : Ending) (w' : World) : Prop := ∃ A c, en = .returned (.slice A n c) ∧ w'.ownsRow w.heap.size e size (.slice A n c) n cs ∧ Ext w w'
def selA (s : Int) : Tri → Bool := fun e => e.a == s
def selB (s : Int) : Tri → Bool := fun e => e.b == s
/-- The value of a flow. -/
def fvS (s : Int) (es : List Tri) (am : List Int) : Int := sumS am (selIdx (selA s) es) - sumS am (selIdx (selB s) es)
def fvV (m n : Nat) (s : Int) (es : List Tri) (am : List Int) : Int := if m = n then wrap64 (fvS s es am) else 0
theorem sum_append (am l l' : List Int) : sumS am (l ++ l') = sumS am l + sumS am l' := by simp [sumS]
theorem sum_one (am : List Int) (k : Nat) (y : Int) (hy : am[k]? = some y) : sumS am [(k : Int)] = y := by simp [sumS, List.getD, hy]
theorem fv_take (s : Int) (es : List Tri) (am : List Int) (k : Nat) (e : Tri) (y : Int) (h : es[k]? = some e) (hy : am[k]? = some y) :
    fvS s (es.take (k + 1)) am = fvS s (es.take k) am + (if e.a = s then y else 0) - (if e.b = s then y else 0) := by
  unfold fvS
  rw [sel_take _ es k e h, sel_take _ es k e h, sum_append, sum_append]
  by_cases h1 : e.a = s <;> by_cases h2 : e.b = s <;> simp [selA, selB, h1, h2, sum_one am k y hy] <;> (try simp [sumS]) <;> omega
theorem sel_in {p : Tri → Bool} {es : List Tri} {am : List Int} (h : es.length = am.length) : ∀ x ∈ selIdx p es, 0 ≤ x ∧ x < am.length := by
  intro x hx
  obtain ⟨i, e, rfl, _, _, hi⟩ := sel_mem hx
  omega

theorem from_s (sz : Int) (A : Option Addr) (n c : Nat) (xs : List Tri) (node : Int) (hn : n ≤ 1048576) (w : World) (hr : Rd w 3 A n (tris xs)) :
    Calls Try.prog 77 #[.agg #[.int .i64 sz, .slice A n c], .int .i64 node] w (OwnS w 3 1 (selIdx (selA node) xs).length (ints (selIdx (selA node) xs))) := (from_spec sz A n c xs node hn w hr).mono fun _ _ h => h.form
theorem to_s (sz : Int) (A : Option Addr) (n c : Nat) (xs : List Tri) (node : Int) (hn : n ≤ 1048576) (w : World) (hr : Rd w 3 A n (tris xs)) :
    Calls Try.prog 78 #[.agg #[.int .i64 sz, .slice A n c], .int .i64 node] w (OwnS w 3 1 (selIdx (selB node) xs).length (ints (selIdx (selB node) xs))) := (to_spec sz A n c xs node hn w hr).mono fun _ _ h => h.form
set_option maxHeartbeats 3200000 in
theorem fv_impl (sz : Int) (A : Option Addr) (n c : Nat) (xs : List Tri) (B : Option Addr) (m d : Nat) (ns : List Int) (s : Int) (hn : n ≤ 1048576) (hm : m ≤ 1048576) (w : World) (hr : Rd w 3 A n (tris xs)) (hb : Rd w 1 B m (ints ns)) :
    Calls Try.prog 42 #[.agg #[.int .i64 sz, .slice A n c], .agg #[.slice B m d], .int .i64 s] w fun e w' => e = .returned (.int .i64 (fvV m n s xs ns)) ∧ Ext w w' := by
  have HL := Lib.hid hr.trilen
  have HM := Lib.hid hb.len
  have eW : Ext w ((w.alloc (.cells #[.int .i64 sz, .slice A n c] 43)).alloc (.cells #[.slice B m d] 61)) := ((Ext.refl w).alloc _).alloc _
  have HR := Lib.hid (hr.ext eW)
  have HN := Lib.hid (hb.ext eW)
  obtain ⟨W, hW⟩ : ∃ W, (w.alloc (.cells #[.int .i64 sz, .slice A n c] 43)).alloc (.cells #[.slice B m d] 61) = W := ⟨_, rfl⟩
  rw [hW] at eW HR HN
  have HW := Lib.hid hW
  clear hW hr hb
  have hz1 : w.heap.size < W.heap.size := by rw [← HW.out]; simp; omega
  have hz2 : w.heap.size + 1 < W.heap.size := by rw [← HW.out]; simp
  have hg0 : W.cell? ⟨w.heap.size, 0, none⟩ = some (.int .i64 sz) := by rw [← HW.out]; go_simp
  have hg1 : W.cell? ⟨w.heap.size, 1, none⟩ = some (.slice A n c) := by rw [← HW.out]; go_simp
  have hf0 : W.cell? ⟨w.heap.size + 1, 0, none⟩ = some (.slice B m d) := by rw [← HW.out]; go_simp
  by_cases hmn : m = n
  case neg =>
    have hne : ((m : Int) != n) = true := by simp; omega
    have HF := Lib.hid (show fvV m n s xs ns = 0 from if_neg hmn)
    have hne2 : (m != n) = true := by simpa using hmn
    have hne3 : ((m : Int) == n) = false := by simp; omega
    have hne4 : (m == n) = false := by simpa using hmn
    go_enter Try.func42, Try.ntmps42
    go_wp2
    go_ret
    exact ⟨ret_int HF.out.symm, by rw [HW.out]; exact eW⟩
  subst hmn
  have hne : ((m : Int) != m) = false := by simp
  have HF := Lib.hid (show fvV m m s xs ns = wrap64 (fvS s xs ns) from if_pos rfl)
  go_enter Try.func42, Try.ntmps42
  go_wp2
  rw [HW.out]
  go_loopw [7, 20] (fun v i wr => ∃ k : Nat, k ≤ m ∧ i = .int .i64 k ∧ v = .int .i64 (wrap64 (fvS s (xs.take k) ns)) ∧ Ext W wr) (fun _ i _ => m - (intOf i).toNat)
  case atStart => exact ⟨0, Nat.zero_le _, rfl, by simp [fvS, selIdx, sumS, wrap_zero], Ext.refl _⟩
  case round =>
    obtain ⟨k, hk, rfl, rfl, he⟩ := hrel
    have hcb := (he.cell _ 0 hz2).trans hf0
    by_cases hlt : k < m
    case pos =>
      obtain ⟨b, o, e, rfl, hbb, hx, hc0, hc1, hc2⟩ := (HR.out.ext he).tri hlt
      obtain ⟨b2, o2, y, rfl, hb2, hy, hd⟩ := (HN.out.ext he).int hlt
      have hne1 : b ≠ wr.heap.size := by omega
      have hne2 : b2 ≠ wr.heap.size := by omega
      have hne3 : w.heap.size + 1 < wr.heap.size := by have := he.size; omega
      have k0 : (0 : Int) ≤ k := by omega
      have k1 : (k : Int) < m := by omega
      have hS := fv_take s xs ns k e y hx hy
      clear hx hy
      generalize fvS s (xs.take k) ns = D at *
      by_cases h1 : e.a = s
      case pos =>
        by_cases h2 : e.b = s
        case pos =>
          have q1 : (e.a == s) = true := by simpa using h1
          have q2 : (e.b == s) = true := by simpa using h2
          rw [if_pos h1, if_pos h2] at hS
          have HS := Lib.hid (show wrap64 (wrap64 (wrap64 D + y) - y) = wrap64 (fvS s (xs.take (k + 1)) ns) by rw [hS]; unfold wrap64; omega)
          have H1 := Lib.hid h1
          have H2 := Lib.hid h2
          clear hS h1 h2
          go_wp2
          go_roundw
          case rel => exact ⟨k + 1, by omega, by go_num, by rw [← HS.out], by (repeat (first | with_reducible exact Ext.refl _ | with_reducible assumption | with_reducible refine Ext.alloc ?_ _ | with_reducible refine Ext.drew ?_ | with_reducible refine Ext.drewN ?_ _ | (with_reducible refine Ext.setCell' ?_ ?_ _; (first | (with_reducible exact Nat.le_refl _) | omega | (dsimp only; omega) | (simp only [World.size_alloc]; omega))) | (with_reducible apply Ext.trans'; with_reducible assumption) | exact (Ext.refl _).drew | (refine Ext.drew ?_; assumption)))⟩
          case measure => simp [intOf]; omega
        case neg =>
          have q1 : (e.a == s) = true := by simpa using h1
          have q2 : (e.b == s) = false := by simpa using h2
          rw [if_pos h1, if_neg h2] at hS
          have HS := Lib.hid (show wrap64 (wrap64 D + y) = wrap64 (fvS s (xs.take (k + 1)) ns) by rw [hS]; unfold wrap64; omega)
          have H1 := Lib.hid h1
          have H2 := Lib.hid h2
          clear hS h1 h2
          go_wp2
          go_roundw
          case rel => exact ⟨k + 1, by omega, by go_num, by rw [← HS.out], by (repeat (first | with_reducible exact Ext.refl _ | with_reducible assumption | with_reducible refine Ext.alloc ?_ _ | with_reducible refine Ext.drew ?_ | with_reducible refine Ext.drewN ?_ _ | (with_reducible refine Ext.setCell' ?_ ?_ _; (first | (with_reducible exact Nat.le_refl _) | omega | (dsimp only; omega) | (simp only [World.size_alloc]; omega))) | (with_reducible apply Ext.trans'; with_reducible assumption) | exact (Ext.refl _).drew | (refine Ext.drew ?_; assumption)))⟩
          case measure => simp [intOf]; omega
      case neg =>
        by_cases h2 : e.b = s
        case pos =>
          have q1 : (e.a == s) = false := by simpa using h1
          have q2 : (e.b == s) = true := by simpa using h2
          rw [if_neg h1, if_pos h2] at hS
          have HS := Lib.hid (show wrap64 (wrap64 D - y) = wrap64 (fvS s (xs.take (k + 1)) ns) by rw [hS]; unfold wrap64; omega)
          have H1 := Lib.hid h1
          have H2 := Lib.hid h2
          clear hS h1 h2
          go_wp2
          go_roundw
          case rel => exact ⟨k + 1, by omega, by go_num, by rw [← HS.out], by (repeat (first | with_reducible exact Ext.refl _ | with_reducible assumption | with_reducible refine Ext.alloc ?_ _ | with_reducible refine Ext.drew ?_ | with_reducible refine Ext.drewN ?_ _ | (with_reducible refine Ext.setCell' ?_ ?_ _; (first | (with_reducible exact Nat.le_refl _) | omega | (dsimp only; omega) | (simp only [World.size_alloc]; omega))) | (with_reducible apply Ext.trans'; with_reducible assumption) | exact (Ext.refl _).drew | (refine Ext.drew ?_; assumption)))⟩
          case measure => simp [intOf]; omega
        case neg =>
          have q1 : (e.a == s) = false := by simpa using h1
          have q2 : (e.b == s) = false := by simpa using h2
          rw [if_neg h1, if_neg h2] at hS
          have HS := Lib.hid (show wrap64 D = wrap64 (fvS s (xs.take (k + 1)) ns) by rw [hS]; unfold wrap64; omega)
          have H1 := Lib.hid h1
          have H2 := Lib.hid h2
          clear hS h1 h2
          go_wp2
          go_roundw
          case rel => exact ⟨k + 1, by omega, by go_num, by rw [← HS.out], by (repeat (first | with_reducible exact Ext.refl _ | with_reducible assumption | with_reducible refine Ext.alloc ?_ _ | with_reducible refine Ext.drew ?_ | with_reducible refine Ext.drewN ?_ _ | (with_reducible refine Ext.setCell' ?_ ?_ _; (first | (with_reducible exact Nat.le_refl _) | omega | (dsimp only; omega) | (simp only [World.size_alloc]; omega))) | (with_reducible apply Ext.trans'; with_reducible assumption) | exact (Ext.refl _).drew | (refine Ext.drew ?_; assumption)))⟩
          case measure => simp [intOf]; omega
    case neg =>
      have HK := Lib.hid (show xs.take k = xs from List.take_of_length_le (by have := HL.out; omega))
      go_wp2
      go_ret
      exact ⟨ret_int (by rw [HF.out, HK.out]), eW.trans he⟩
set_option maxHeartbeats 3200000 in
theorem fv_spec (sz : Int) (A : Option Addr) (n c : Nat) (xs : List Tri) (B : Option Addr) (m d : Nat) (ns : List Int) (s : Int) (hn : n ≤ 1048576) (hm : m ≤ 1048576) (w : World) (hr : Rd w 3 A n (tris xs)) (hb : Rd w 1 B m (ints ns)) :
    Calls Try.prog 40 #[.agg #[.int .i64 sz, .slice A n c], .agg #[.slice B m d], .int .i64 s] w fun e w' => e = .returned (.int .i64 (fvV m n s xs ns)) ∧ Ext w w' := by
  have HL := Lib.hid hr.trilen
  have HM := Lib.hid hb.len
  have eW : Ext w ((w.alloc (.cells #[.int .i64 sz, .slice A n c] 43)).alloc (.cells #[.slice B m d] 61)) := ((Ext.refl w).alloc _).alloc _
  have HR := Lib.hid (hr.ext eW)
  have HN := Lib.hid (hb.ext eW)
  obtain ⟨W, hW⟩ : ∃ W, (w.alloc (.cells #[.int .i64 sz, .slice A n c] 43)).alloc (.cells #[.slice B m d] 61) = W := ⟨_, rfl⟩
  rw [hW] at eW HR HN
  have HW := Lib.hid hW
  clear hW hr hb
  have hz1 : w.heap.size < W.heap.size := by rw [← HW.out]; simp; omega
  have hz2 : w.heap.size + 1 < W.heap.size := by rw [← HW.out]; simp
  have hg0 : W.cell? ⟨w.heap.size, 0, none⟩ = some (.int .i64 sz) := by rw [← HW.out]; go_simp
  have hg1 : W.cell? ⟨w.heap.size, 1, none⟩ = some (.slice A n c) := by rw [← HW.out]; go_simp
  have hf0 : W.cell? ⟨w.heap.size + 1, 0, none⟩ = some (.slice B m d) := by rw [← HW.out]; go_simp
  by_cases hmn : m = n
  case neg =>
    have hne : ((m : Int) != n) = true := by simp; omega
    have HF := Lib.hid (show fvV m n s xs ns = 0 from if_neg hmn)
    have hne2 : (m != n) = true := by simpa using hmn
    have hne3 : ((m : Int) == n) = false := by simp; omega
    have hne4 : (m == n) = false := by simpa using hmn
    go_enter Try.func40, Try.ntmps40
    go_wp2
    go_ret
    exact ⟨ret_int HF.out.symm, by rw [HW.out]; exact eW⟩
  subst hmn
  have hne : ((m : Int) != m) = false := by simp
  have HF := Lib.hid (show fvV m m s xs ns = wrap64 (fvS s xs ns) from if_pos rfl)
  have HI := Lib.hid (show xs.length = ns.length by have := HL.out; have := HM.out; omega)
  go_enter Try.func40, Try.ntmps40
  go_wp2
  rw [HW.out]
  go_region_held3 (fun w' => (w'.cell? ⟨w.heap.size, 0, none⟩ = some (.int .i64 sz) ∧ w'.cell? ⟨w.heap.size, 1, none⟩ = some (.slice A m c) ∧ w'.cell? ⟨w.heap.size + 1, 0, none⟩ = some (.slice B m d)) ∧ Ext W w') ((refine keepS ?_ (fun hX => ?_); (focus ((repeat (first | with_reducible exact Ext.refl _ | with_reducible assumption | with_reducible refine Ext.alloc ?_ _ | with_reducible refine Ext.drew ?_ | with_reducible refine Ext.drewN ?_ _ | (with_reducible refine Ext.setCell' ?_ ?_ _; (first | (with_reducible exact Nat.le_refl _) | omega | (dsimp only; omega) | (simp only [World.size_alloc]; omega))) | (with_reducible apply Ext.trans'; with_reducible assumption) | exact (Ext.refl _).drew | (refine Ext.drew ?_; assumption))); done)); (refine ⟨?_, ?_, ?_⟩ <;> (refine (hX.cell _ _ ?_).trans ?_; omega; assumption)))) (first | (go_at_call 77; refine (from_s _ _ _ _ _ _ hn _ (HR.out.ext (by (repeat (first | with_reducible exact Ext.refl _ | with_reducible assumption | with_reducible refine Ext.alloc ?_ _ | with_reducible refine Ext.drew ?_ | with_reducible refine Ext.drewN ?_ _ | (with_reducible refine Ext.setCell' ?_ ?_ _; (first | (with_reducible exact Nat.le_refl _) | omega | (dsimp only; omega) | (simp only [World.size_alloc]; omega))) | (with_reducible apply Ext.trans'; with_reducible assumption) | exact (Ext.refl _).drew | (refine Ext.drew ?_; assumption)))))).mono ?_; rintro e vF ⟨AF, cF, rfl, hoF, bvF⟩; have xvF : Ext W vF := (by (repeat (first | with_reducible exact Ext.refl _ | with_reducible assumption | with_reducible refine Ext.alloc ?_ _ | with_reducible refine Ext.drew ?_ | with_reducible refine Ext.drewN ?_ _ | (with_reducible refine Ext.setCell' ?_ ?_ _; (first | (with_reducible exact Nat.le_refl _) | omega | (dsimp only; omega) | (simp only [World.size_alloc]; omega))) | (with_reducible apply Ext.trans'; with_reducible assumption) | exact (Ext.refl _).drew | (refine Ext.drew ?_; assumption)))); have qvF_0 := (xvF.cell (w.heap.size) (0) (by omega)).trans hg0; have qvF_1 := (xvF.cell (w.heap.size) (1) (by omega)).trans hg1; have qvF_2 := (xvF.cell (w.heap.size + 1) (0) (by omega)).trans hf0) | (go_at_call 78; refine (to_s _ _ _ _ _ _ hn _ (HR.out.ext (by (repeat (first | with_reducible exact Ext.refl _ | with_reducible assumption | with_reducible refine Ext.alloc ?_ _ | with_reducible refine Ext.drew ?_ | with_reducible refine Ext.drewN ?_ _ | (with_reducible refine Ext.setCell' ?_ ?_ _; (first | (with_reducible exact Nat.le_refl _) | omega | (dsimp only; omega) | (simp only [World.size_alloc]; omega))) | (with_reducible apply Ext.trans'; with_reducible assumption) | exact (Ext.refl _).drew | (refine Ext.drew ?_; assumption)))))).mono ?_; rintro e vT ⟨AT, cT, rfl, hoT, bvT⟩; have xvT : Ext W vT := (by (repeat (first | with_reducible exact Ext.refl _ | with_reducible assumption | with_reducible refine Ext.alloc ?_ _ | with_reducible refine Ext.drew ?_ | with_reducible refine Ext.drewN ?_ _ | (with_reducible refine Ext.setCell' ?_ ?_ _; (first | (with_reducible exact Nat.le_refl _) | omega | (dsimp only; omega) | (simp only [World.size_alloc]; omega))) | (with_reducible apply Ext.trans'; with_reducible assumption) | exact (Ext.refl _).drew | (refine Ext.drew ?_; assumption)))); have qvT_0 := (xvT.cell (w.heap.size) (0) (by omega)).trans hg0; have qvT_1 := (xvT.cell (w.heap.size) (1) (by omega)).trans hg1; have qvT_2 := (xvT.cell (w.heap.size + 1) (0) (by omega)).trans hf0) | (go_at_call 76; refine (sum_spec _ _ _ _ _ _ _ _ hm (Nat.le_trans (sel_len _ _) (by have := HL.out; omega)) (sel_in HI.out) _ (HN.out.ext (by (repeat (first | with_reducible exact Ext.refl _ | with_reducible assumption | with_reducible refine Ext.alloc ?_ _ | with_reducible refine Ext.drew ?_ | with_reducible refine Ext.drewN ?_ _ | (with_reducible refine Ext.setCell' ?_ ?_ _; (first | (with_reducible exact Nat.le_refl _) | omega | (dsimp only; omega) | (simp only [World.size_alloc]; omega))) | (with_reducible apply Ext.trans'; with_reducible assumption) | exact (Ext.refl _).drew | (refine Ext.drew ?_; assumption))))) ((Rd.of_own hoT).ext (by (repeat (first | with_reducible exact Ext.refl _ | with_reducible assumption | with_reducible refine Ext.alloc ?_ _ | with_reducible refine Ext.drew ?_ | with_reducible refine Ext.drewN ?_ _ | (with_reducible refine Ext.setCell' ?_ ?_ _; (first | (with_reducible exact Nat.le_refl _) | omega | (dsimp only; omega) | (simp only [World.size_alloc]; omega))) | (with_reducible apply Ext.trans'; with_reducible assumption) | exact (Ext.refl _).drew | (refine Ext.drew ?_; assumption)))))).mono ?_; rintro e vV ⟨rfl, bvV⟩; have xvV : Ext W vV := (by (repeat (first | with_reducible exact Ext.refl _ | with_reducible assumption | with_reducible refine Ext.alloc ?_ _ | with_reducible refine Ext.drew ?_ | with_reducible refine Ext.drewN ?_ _ | (with_reducible refine Ext.setCell' ?_ ?_ _; (first | (with_reducible exact Nat.le_refl _) | omega | (dsimp only; omega) | (simp only [World.size_alloc]; omega))) | (with_reducible apply Ext.trans'; with_reducible assumption) | exact (Ext.refl _).drew | (refine Ext.drew ?_; assumption)))); have qvV_0 := (xvV.cell (w.heap.size) (0) (by omega)).trans hg0; have qvV_1 := (xvV.cell (w.heap.size) (1) (by omega)).trans hg1; have qvV_2 := (xvV.cell (w.heap.size + 1) (0) (by omega)).trans hf0) | (go_at_call 76; refine (sum_spec _ _ _ _ _ _ _ _ hm (Nat.le_trans (sel_len _ _) (by have := HL.out; omega)) (sel_in HI.out) _ (HN.out.ext (by (repeat (first | with_reducible exact Ext.refl _ | with_reducible assumption | with_reducible refine Ext.alloc ?_ _ | with_reducible refine Ext.drew ?_ | with_reducible refine Ext.drewN ?_ _ | (with_reducible refine Ext.setCell' ?_ ?_ _; (first | (with_reducible exact Nat.le_refl _) | omega | (dsimp only; omega) | (simp only [World.size_alloc]; omega))) | (with_reducible apply Ext.trans'; with_reducible assumption) | exact (Ext.refl _).drew | (refine Ext.drew ?_; assumption))))) ((Rd.of_own hoF).ext (by (repeat (first | with_reducible exact Ext.refl _ | with_reducible assumption | with_reducible refine Ext.alloc ?_ _ | with_reducible refine Ext.drew ?_ | with_reducible refine Ext.drewN ?_ _ | (with_reducible refine Ext.setCell' ?_ ?_ _; (first | (with_reducible exact Nat.le_refl _) | omega | (dsimp only; omega) | (simp only [World.size_alloc]; omega))) | (with_reducible apply Ext.trans'; with_reducible assumption) | exact (Ext.refl _).drew | (refine Ext.drew ?_; assumption)))))).mono ?_; rintro e vU ⟨rfl, bvU⟩; have xvU : Ext W vU := (by (repeat (first | with_reducible exact Ext.refl _ | with_reducible assumption | with_reducible refine Ext.alloc ?_ _ | with_reducible refine Ext.drew ?_ | with_reducible refine Ext.drewN ?_ _ | (with_reducible refine Ext.setCell' ?_ ?_ _; (first | (with_reducible exact Nat.le_refl _) | omega | (dsimp only; omega) | (simp only [World.size_alloc]; omega))) | (with_reducible apply Ext.trans'; with_reducible assumption) | exact (Ext.refl _).drew | (refine Ext.drew ?_; assumption)))); have qvU_0 := (xvU.cell (w.heap.size) (0) (by omega)).trans hg0; have qvU_1 := (xvU.cell (w.heap.size) (1) (by omega)).trans hg1; have qvU_2 := (xvU.cell (w.heap.size + 1) (0) (by omega)).trans hf0))
  go_wp2
  go_ret
  exact ⟨ret_int (by rw [HF.out, fvS, ← wrap_sub2, i64wrap]), by (repeat (first | with_reducible exact Ext.refl _ | with_reducible assumption | with_reducible refine Ext.alloc ?_ _ | with_reducible refine Ext.drew ?_ | with_reducible refine Ext.drewN ?_ _ | (with_reducible refine Ext.setCell' ?_ ?_ _; (first | (with_reducible exact Nat.le_refl _) | omega | (dsimp only; omega) | (simp only [World.size_alloc]; omega))) | (with_reducible apply Ext.trans'; with_reducible assumption) | exact (Ext.refl _).drew | (refine Ext.drew ?_; assumption)))⟩

end Go.Proofs.Ytefkjkbipkcncaa
