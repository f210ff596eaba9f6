/-
  Integers as decimal text, texts joined: the library's functions; the plain part.
-/
import Derived.Test.YtaopjdeigpiejaaDoorSj
import Derived.Test.YtaopjdeigpiejaaDoorFo
import Derived.Lib.ItoaLen
namespace Go.Proofs.YtaopjdeigpiejaaDoor
open Go.Shelf Go.RowKit Go.Sort
set_option linter.unusedVariables false
set_option linter.unusedSimpArgs false
set_option maxRecDepth 100000
set_option maxHeartbeats 4000000
attribute [local irreducible] Fn
def bs (l : List UInt8) : ByteArray := ⟨l.toArray⟩
theorem bs_data (l : List UInt8) : (bs l).data.toList = l := rfl
theorem bs_of {v : ByteArray} {l : List UInt8} (h : v.data.toList = l) : v = bs l := by subst h; rfl
theorem bs_add (a b : ByteArray) : (a ++ b).data.toList = a.data.toList ++ b.data.toList := by simp [ByteArray.data_append]
theorem bs_size (a : ByteArray) : a.size = a.data.toList.length := by show a.data.size = _; simp
theorem post_none {E : Ent0} {nw : Bool} {w' : World} {γ : Nm → Value} : Post E nw w' [] γ := by
  have none : ∀ N x, ¬ AtL (lkx []) N x := fun N x ⟨y, h, _⟩ => by cases h
  exact ⟨fun N x h => absurd h (none N x), fun N x bk h => absurd h (none N x), fun N M x y bk h => absurd h (none N x), fun M x N h => absurd h (none M x), fun L x _ h => by cases h⟩
theorem itoa_fn (n : Int) (h0 : -9223372036854775808 ≤ n) (h1 : n ≤ 9223372036854775807) : Fn Tryd.prog 16 true (.cons (.I n) .nil) [] (.s (bs (Lib.itoa n))) [] := by
  unfold Fn
  refine ⟨⟨_, _, Tryd.func16, rfl, rfl⟩, fun E vs hP hr _ => ?_⟩
  obtain ⟨v, us0, rfl, h2, h3⟩ := hr
  obtain rfl : us0 = [] := h3
  obtain rfl : v = .int .i64 n := (List.cons.inj h2).1
  have htab : ∀ {name : String}, Tryd.prog.globalNamed name = some 1 → Lib.TabIs Tryd.prog E.w name .u64 Lib.pow10Tab := fun {name} hg => by
    obtain ⟨g, rfl, _, _, t, fr, h4⟩ := E.tab
    unfold Lib.TabIs World.var?
    rw [hg, Option.bind_some, h4]
  have key : Calls Tryd.prog 16 #[.int .i64 n] E.w fun e w' => e = .returned (.string ⟨(Lib.itoa n).toArray⟩) ∧ ∃ k os, w' = grow (E.w.drewN k) os := Any.strconv_Itoa sh_itoaA n h0 h1 E.w (htab (by kernel_rfl))
  refine key.mono ?_
  rintro e w' ⟨rfl, k, os, rfl⟩
  refine ⟨_, E.g, rfl, ⟨rfl, rfl, rfl, by rw [size_grow]; exact Nat.le_add_right _ _, fun q hq _ => ?_⟩, post_none, rfl, fun _ => trivial, fun N hN => hN.elim⟩
  show (E.w.heap ++ os)[q]? = _
  rw [Array.getElem?_append_left hq]
theorem join_fn (n : Nat) (f : Nat → ByteArray) (sep : ByteArray) (hn : n ≤ 1048576) (hl : (Lib.join ((List.range n).map fun k => (f k).data.toList) sep.data.toList).length ≤ 140737488355328) :
    Fn Tryd.prog 15 true (.cons (.rs false n 1 (fun k _ => .s (f k))) (.cons (.s sep) .nil)) [] (.s (bs (Lib.join ((List.range n).map fun k => (f k).data.toList) sep.data.toList))) [] := by
  unfold Fn
  refine ⟨⟨_, _, Tryd.func15, rfl, rfl⟩, fun E vs hP hr _ => ?_⟩
  obtain ⟨v, us0, rfl, ⟨A, cap, h2, hcap, h3⟩, v1, us1, rfl, h4, h5⟩ := hr
  obtain rfl : us1 = [] := h5
  obtain rfl : v1 = .string sep := (List.cons.inj h4).1
  obtain rfl : v = .slice A n cap := (List.cons.inj h2).1
  have key : Calls Tryd.prog 15 #[.slice A n cap, .string sep] E.w fun e w' => e = .returned (.string ⟨(Lib.join ((List.range n).map fun k => (f k).data.toList) sep.data.toList).toArray⟩) ∧ Below E.w.heap.size E.w w' := by
    rcases Nat.eq_zero_or_pos n with h0 | h0
    · subst h0
      have := Any.strings_Join_none sh_joinA sh_joinX A cap sep E.w
      refine Calls.mono this ?_
      rintro e w' ⟨rfl, rfl⟩
      exact ⟨rfl, Below.refl _ _⟩
    · obtain ⟨bk, o, rfl, hb, _, hc⟩ := h3 h0
      have hln : ((List.range n).map f).length = n := by simp
      have hm : ((List.range n).map f).map (fun x => x.data.toList) = (List.range n).map fun k => (f k).data.toList := by rw [List.map_map]; rfl
      have := Any.strings_Join sh_joinA sh_joinX bk o cap ((List.range n).map f) sep E.w (fun j x hj => by
        rw [List.getElem?_map] at hj
        obtain ⟨k, hk, rfl⟩ := Option.map_eq_some_iff.1 hj
        have hj' : j < n := by
          have := (List.getElem?_eq_some_iff.1 hk).1
          simpa using this
        obtain rfl : j = k := by
          rw [List.getElem?_range hj'] at hk
          exact Option.some.inj hk
        obtain ⟨u, g1, _, g2⟩ := hc j 0 hj' Nat.one_pos
        have g3 : u = .string (f j) := (List.cons.inj g2).1
        rw [g3] at g1
        simpa using g1) hb (by rw [hln]; omega) (by rw [hln]; exact hcap) (by rw [hm]; exact hl)
      rw [hln, hm] at this
      exact this
  refine key.mono ?_
  rintro e w' ⟨rfl, hB⟩
  exact ⟨_, E.g, rfl, ⟨hB.os, hB.tape, hB.output, hB.size, fun k hk _ => hB.block k hk⟩, post_none, rfl, fun _ => trivial, fun N hN => hN.elim⟩

/-! ### the digits, one by one -/
def numD (u : Nat) : List UInt8 := if u = 0 then [] else Lib.decDigits u
theorem numD_zero : numD 0 = [] := rfl
theorem numD_pos {u : Nat} (h : u ≠ 0) : numD u = Lib.decDigits u := if_neg h
theorem numD_step {u : Nat} (h : u ≠ 0) : numD u = numD (u / 10) ++ [UInt8.ofNat (48 + u % 10)] := by
  rw [numD_pos h]
  by_cases h1 : u < 10
  · rw [Lib.decDigits_one h1, show u / 10 = 0 by omega, numD_zero, show u % 10 = u by omega]; rfl
  · rw [Lib.decDigits, dif_neg h1, numD_pos (by omega)]
theorem numD_len {u : Nat} (h : u < 18446744073709551616) : (numD u).length ≤ 20 := by
  unfold numD
  split
  · simp
  · rw [Lib.decDigits_length]; exact Lib.nDigits_le20 u h
theorem dig_tmod (x : Int) : (if x.tmod 10 < 0 then 0 - x.tmod 10 else x.tmod 10) = ((x.natAbs % 10 : Nat) : Int) := by
  rcases Int.natAbs_eq x with h | h <;> generalize x.natAbs = u at h <;> subst h
  · rw [show ((u : Int).tmod 10) = ((u % 10 : Nat) : Int) from (Int.ofNat_tmod u 10).symm]; split <;> omega
  · rw [Int.neg_tmod, show ((u : Int).tmod 10) = ((u % 10 : Nat) : Int) from (Int.ofNat_tmod u 10).symm]; split <;> omega
theorem div_tdiv (x : Int) : (x.tdiv 10).natAbs = x.natAbs / 10 := by rw [Int.natAbs_tdiv]; rfl
theorem itoa_of {n : Int} (h : n ≠ 0) : Lib.itoa n = if n < 0 then 45 :: numD n.natAbs else numD n.natAbs := by
  unfold Lib.itoa
  split
  · rw [numD_pos (by omega)]
  · rw [numD_pos (by omega), show n.toNat = n.natAbs by omega]
theorem itoa_zero : Lib.itoa 0 = [48] := by decide +kernel

/-! ### joined, one by one -/
theorem join_snoc (sep : List UInt8) {xs : List (List UInt8)} (y : List UInt8) (h : xs ≠ []) : Lib.join (xs ++ [y]) sep = Lib.join xs sep ++ sep ++ y := by
  cases xs with
  | nil => exact absurd rfl h
  | cons x r =>
    rw [List.cons_append, Lib.join_cons, Lib.join_cons]
    simp [Lib.joinTail, List.append_assoc]
theorem join_take (ns : List Int) (sep : List UInt8) {i : Nat} (hi : i < ns.length) : Lib.join ((ns.take (i + 1)).map Lib.itoa) sep = (if 0 < i then Lib.join ((ns.take i).map Lib.itoa) sep ++ sep else []) ++ Lib.itoa (ns.getD i 0) := by
  have e : ns.take (i + 1) = ns.take i ++ [ns.getD i 0] := by rw [List.take_add_one, List.getD_eq_getElem?_getD, List.getElem?_eq_getElem hi]; rfl
  rw [e, List.map_append, List.map_cons, List.map_nil]
  split
  · rename_i h0
    refine join_snoc sep _ ?_
    intro h
    have := congrArg List.length h
    rw [List.length_map, List.length_take, List.length_nil] at this
    omega
  · obtain rfl : i = 0 := by omega
    simp [Lib.join, List.intercalate]
theorem W64.lo {x : Int} (h : W64 x) : -9223372036854775808 ≤ x ∧ x ≤ 9223372036854775807 := by
  unfold W64 Lit.wf at h
  rw [Bool.and_eq_true, decide_eq_true_eq, decide_eq_true_eq] at h
  exact h
theorem join_len (ns : List Int) (hw : ∀ x ∈ ns, W64 x) (hn : ns.length ≤ 1048576) (i : Nat) : (Lib.join ((ns.take i).map Lib.itoa) [62]).length ≤ 22 * i := by
  induction i with
  | zero => simp [Lib.join, List.intercalate]
  | succ i ih =>
    by_cases hi : i < ns.length
    · rw [join_take ns [62] hi, List.length_append]
      have hx : ns.getD i 0 ∈ ns := by rw [List.getD_eq_getElem?_getD, List.getElem?_eq_getElem hi]; exact List.getElem_mem hi
      have h2 := Lib.itoa_length_le (ns.getD i 0) (hw _ hx).lo.1 (hw _ hx).lo.2
      split
      · rw [List.length_append, List.length_singleton]; omega
      · rw [List.length_nil]; omega
    · rw [List.take_of_length_le (by omega)]
      rw [List.take_of_length_le (by omega)] at ih
      omega
end Go.Proofs.YtaopjdeigpiejaaDoor
