/-
  slices.Grow at nil and slices.Concat at []int.
-/
import Derived.Test.YtbepgedckfhifaaGreatFiHash
import Derived.Lib.AppendZerosOnto
import Derived.Lib.Walk
import Derived.Lib.SliceRun
namespace Go.Proofs.YtbepgedckfhifaaGreat
open Go.ChangeShapes Go.WideShapes Go.ChangeAt Go.RowKit
set_option linter.unusedVariables false
theorem zeros_len (k : Nat) : (Builtin.zeroCells (Value.int .i64 0).cells k).size = k := by
  simp [Builtin.zeroCells, Value.cells]
set_option maxHeartbeats 800000 in
theorem grow_nil (n : Nat) (hn : n ≤ 4398046511104) (w : World) :
    Calls Tryz.prog 172 #[.slice none 0 0, .int .i64 n] w (OwnPost w 3 1 0 []) := by
  by_cases h0 : n = 0
  case pos =>
    subst h0
    go_enter Tryz.func172, Tryz.ntmps172
    go_wp2
    go_ret
    exact ⟨_, rfl, own_nil _ _ _ _, Ext.refl _⟩
  obtain ⟨i0, hi, hz0, hz1, hz2⟩ := info_int
  have hG := grownCap_ge w n 0 3
  have hGm := grownCap_le_maxLen w n 0 3 (by unfold maxLen; omega)
  have hrz : ∀ ty, (Builtin.append_ #[22, 3] ty #[.slice none 0 0, .int .i64 (n : Int)]).run Tryz.prog w =
      .ok (.slice (some ⟨w.heap.size, 0, none⟩) n (grownCap w n 0 3)) (w.drew.alloc (.cells (Builtin.zeroCells (Value.int .i64 0).cells n ++ Builtin.zeroCells (Value.int .i64 0).cells (grownCap w n 0 3 - n)) 3)) := fun ty => by
    have h := Lib.run_append_grow_zeros w 22 3 ty 3 i0 (.int .i64 0) .i64 .i64 Tryz.underlying22 Tryz.underlying3 hi hz0 none 0 0 [] (run_firstCells_none w.drew i0.size 0 0 0) n (by omega) (by omega) (by omega) (by omega)
      (by rw [hz2]; omega) (growslice_fits (by omega) (by rw [hz2]; omega))
    simpa using h
  have hown : (w.drew.alloc (.cells (Builtin.zeroCells (Value.int .i64 0).cells n ++ Builtin.zeroCells (Value.int .i64 0).cells (grownCap w n 0 3 - n)) 3)).ownsRow w.heap.size 3 1 (.slice (some ⟨w.heap.size, 0, none⟩) 0 (grownCap w n 0 3)) 0 [] :=
    ⟨by simp, .inr ⟨w.heap.size, _, _, rfl, Nat.le_refl _, heap_alloc_new w.drew _, Nat.zero_le _, hGm, by simp [zeros_len]; omega, by simp⟩⟩
  have HO := Lib.hid hown
  have HR := Lib.hid hrz
  clear hown hrz hi hz0 hz1 hz2
  have hn0 : 0 < n := by omega
  generalize grownCap w n 0 3 = G at *
  unfold maxLen at hGm
  go_enter Tryz.func172, Tryz.ntmps172
  go_wp2_with (at_builtin; refine Lib.wpList_append_run _ rfl _ _ _ _ rfl _ _ rfl rfl _ _ (HR.out _) ?_)
  go_ret
  exact ⟨_, rfl, HO.out, ((Ext.refl _).drew).alloc _⟩
structure ISl where
  A : Option Addr
  n : Nat
  c : Nat
  xs : List Int
def ISl.val (s : ISl) : Value := .slice s.A s.n s.c
def flat (ss : List ISl) : List Int := ss.flatMap ISl.xs
theorem flat_take (ss : List ISl) (k : Nat) (s : ISl) (h : ss[k]? = some s) : flat (ss.take (k + 1)) = flat (ss.take k) ++ s.xs := by
  rw [List.take_add_one, h]
  simp [flat]
theorem flat_take_le (ss : List ISl) (k : Nat) : (flat (ss.take k)).length ≤ (flat ss).length := by
  have : flat ss = flat (ss.take k) ++ flat (ss.drop k) := by rw [flat, flat, flat, ← List.flatMap_append, List.take_append_drop]
  rw [this, List.length_append]
  omega
theorem vals_get {ss : List ISl} {k : Nat} {u : Value} (h : (ss.map ISl.val)[k]? = some u) : ∃ s, ss[k]? = some s ∧ u = .slice s.A s.n s.c := by
  rw [List.getElem?_map] at h
  cases hx : ss[k]? with
  | none => rw [hx] at h; cases h
  | some s => rw [hx] at h; exact ⟨s, rfl, by simpa [ISl.val] using h.symm⟩
set_option maxHeartbeats 1600000 in
theorem concat_any (A : Option Addr) (m c : Nat) (ss : List ISl) (hm : m ≤ 1000) (w : World) (hr : Rd w 1 A m (ss.map ISl.val)) (hss : ∀ s ∈ ss, Rd w 1 s.A s.n (ints s.xs)) (ht : (flat ss).length ≤ 4398046511104) :
    Calls Tryz.prog 133 #[.slice A m c] w (OwnPost w 3 1 (flat ss).length (ints (flat ss))) := by
  have hlen : ss.length = m := by simpa using hr.1
  have HL := Lib.hid hlen
  have HSS := Lib.hid hss
  clear hlen hss
  go_enter Tryz.func133, Tryz.ntmps133
  go_wp2
  go_loop [3, 11] (fun d i => ∃ k : Nat, k ≤ m ∧ i = .int .i64 k ∧ d = .int .i64 ((flat (ss.take k)).length : Nat)) (fun _ i => m - (intOf i).toNat)
  case atStart => exact ⟨0, Nat.zero_le _, rfl, rfl⟩
  case round =>
    obtain ⟨k, hk, rfl, rfl⟩ := hrel
    have hb := flat_take_le ss k
    by_cases hlt : k < m
    case pos =>
      obtain ⟨b, o, u, rfl, hb', hx, hc⟩ := hr.at1 hlt
      obtain ⟨s, hs, rfl⟩ := vals_get hx
      have hsl := (HSS.out s (List.mem_of_getElem? hs)).len
      have h2 := flat_take_le ss (k + 1)
      have h3 := flat_take ss k s hs
      have h4 : (flat (ss.take (k + 1))).length = (flat (ss.take k)).length + s.n := by rw [h3, List.length_append, hsl]
      have H4 := Lib.hid h4
      have h5 : (flat (ss.take k)).length + s.n ≤ 4398046511104 := by omega
      clear hx hs hsl h2 h3 h4
      generalize (flat (ss.take k)).length = d at *
      go_wp2
      go_round
      case rel => exact ⟨k + 1, by omega, by go_num, by rw [H4.out]; go_num⟩
      case measure => simp [intOf]; omega
    case neg =>
      have hkn : ss.take k = ss := List.take_of_length_le (by have := HL.out; omega)
      have HK := Lib.hid hkn
      clear hkn
      rw [show (flat (ss.take k)).length = (flat ss).length by rw [HK.out]]
      go_wp2_with fail
      refine (grow_nil _ (by omega) _).mono ?_
      rintro e w1 ⟨v, rfl, hown, hext⟩
      have HO := Lib.hid hown
      clear hown
      go_wp2
      go_loopw [6, 27] (fun v i wr => ∃ k : Nat, k ≤ m ∧ i = .int .i64 k ∧ wr.ownsRow w.heap.size 3 1 v (flat (ss.take k)).length (ints (flat (ss.take k))) ∧ Ext w wr) (fun _ i _ => m - (intOf i).toNat)
      case atStart => exact ⟨0, Nat.zero_le _, rfl, HO.out, hext⟩
      case round =>
        obtain ⟨k, hk, rfl, ho, he⟩ := hrel
        have hb := flat_take_le ss k
        by_cases hlt : k < m
        case pos =>
          obtain ⟨b, o, u, rfl, hb', hx, hc⟩ := (hr.ext he).at1 hlt
          obtain ⟨s, hs, rfl⟩ := vals_get hx
          have hrs := (HSS.out s (List.mem_of_getElem? hs)).ext he
          have hsl := hrs.len
          have h2 := flat_take_le ss (k + 1)
          have h3 := flat_take ss k s hs
          have h4 : (flat (ss.take (k + 1))).length = (flat (ss.take k)).length + s.n := by rw [h3, List.length_append, hsl]
          have H4 := Lib.hid h4
          have H3 := Lib.hid h3
          have h5 : (flat (ss.take k)).length + s.n ≤ 4398046511104 := by omega
          clear hx hs hsl h2 h3 h4
          have HR := Lib.hid hrs
          have HO2 := Lib.hid ho
          have hz := he.size
          clear hrs ho
          go_wp2_with (at_builtin; refine wpList_append_int _ rfl _ _ rfl w.heap.size _ _ _ rfl HO2.out _ _ _ _ rfl HR.out (by omega) hz ?_; intro v' w' ho' hg' hv')
          have hE := Lib.hid (ext_grown_own he HO2.out hg' (Nat.le_refl _))
          rw [← H3.out, ← H4.out] at ho'
          have HO3 := Lib.hid ho'
          clear ho' hg' hv'
          go_wp2
          go_roundw
          case rel => exact ⟨k + 1, by omega, by go_num, HO3.out, hE.out⟩
          case measure => simp [intOf]; omega
        case neg =>
          have hkn : ss.take k = ss := List.take_of_length_le (by have := HL.out; omega)
          rw [hkn] at ho
          have HO2 := Lib.hid ho
          clear hkn ho
          go_wp2
          go_ret
          exact ⟨_, rfl, HO2.out, he⟩
end Go.Proofs.YtbepgedckfhifaaGreat
