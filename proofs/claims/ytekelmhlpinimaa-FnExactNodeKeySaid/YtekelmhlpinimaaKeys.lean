/-
  GroupKey, MemberKey and NodeKey of the program and of the reference.
-/
import Derived.Test.YtekelmhlpinimaaKeyed
namespace Go.Proofs.Ytekelmhlpinimaa
open Go.ChangeShapes Go.WideShapes Go.ChangeAt Go.RowKit
set_option linter.unusedVariables false

theorem orone_any (k : Int) (w : World) : Calls Try.prog 58 #[.int .i64 k] w fun e w' => e = .returned (.int .i64 (max 1 k)) ∧ w = w' := by
  go_enter Try.func58, Try.ntmps58
  go_wp2
  go_ret
  exact ⟨ret_int (by omega), rfl⟩
theorem max_spec (a b : Int) (w : World) : Calls Try.prog 56 #[.int .i64 a, .int .i64 b] w fun e w' => e = .returned (.int .i64 (max a b)) ∧ w = w' := by
  by_cases h0 : a < b
  case pos =>
    rw [show max a b = b by omega]
    go_enter Try.func56, Try.ntmps56
    go_wp2
    go_ret
    exact ⟨rfl, rfl⟩
  rw [show max a b = a by omega]
  go_enter Try.func56, Try.ntmps56
  go_wp2
  go_ret
  exact ⟨rfl, rfl⟩

set_option maxHeartbeats 400000 in
theorem groupKey_impl (m x : Int) (w : World) :
    Calls Try.prog 16 #[.int .i64 m, .int .i64 x] w fun e w' => e = .returned (.int .i64 (max 1 (khash m [93, x]))) ∧ Ext w w' := by
  have r := Rd.new w 3 (ints [93, x]) 2 1 rfl
  have R := Lib.hid r
  clear r
  obtain ⟨k1, k2⟩ := khash_bd m [93, x]
  go_enter Try.func16, Try.ntmps16
  go_wp2_with fail
  refine (keyed_impl _ _ _ _ [93, x] (by omega) _ R.out).mono ?_
  rintro e w1 ⟨rfl, b1⟩
  go_wp2_with fail
  refine (orone_any _ _).mono ?_
  rintro e w2 ⟨rfl, rfl⟩
  go_wp2_with fail
  go_ret
  exact ⟨rfl, Ext.trans ((Ext.refl w).alloc _) b1⟩

set_option maxHeartbeats 400000 in
theorem memberKey_impl (m x : Int) (w : World) :
    Calls Try.prog 18 #[.int .i64 m, .int .i64 x] w fun e w' => e = .returned (.int .i64 (max 1 (khash m [91, x]))) ∧ Ext w w' := by
  have r := Rd.new w 3 (ints [91, x]) 2 1 rfl
  have R := Lib.hid r
  clear r
  obtain ⟨k1, k2⟩ := khash_bd m [91, x]
  go_enter Try.func18, Try.ntmps18
  go_wp2_with fail
  refine (keyed_impl _ _ _ _ [91, x] (by omega) _ R.out).mono ?_
  rintro e w1 ⟨rfl, b1⟩
  go_wp2_with fail
  refine (orone_any _ _).mono ?_
  rintro e w2 ⟨rfl, rfl⟩
  go_wp2_with fail
  go_ret
  exact ⟨rfl, Ext.trans ((Ext.refl w).alloc _) b1⟩

set_option maxHeartbeats 400000 in
theorem nodeKey_impl (m x : Int) (w : World) :
    Calls Try.prog 20 #[.int .i64 m, .int .i64 x] w fun e w' => e = .returned (.int .i64 (max 1 (khash m [101, x]))) ∧ Ext w w' := by
  have r := Rd.new w 3 (ints [101, x]) 2 1 rfl
  have R := Lib.hid r
  clear r
  obtain ⟨k1, k2⟩ := khash_bd m [101, x]
  go_enter Try.func20, Try.ntmps20
  go_wp2_with fail
  refine (keyed_impl _ _ _ _ [101, x] (by omega) _ R.out).mono ?_
  rintro e w1 ⟨rfl, b1⟩
  go_wp2_with fail
  refine (orone_any _ _).mono ?_
  rintro e w2 ⟨rfl, rfl⟩
  go_wp2_with fail
  go_ret
  exact ⟨rfl, Ext.trans ((Ext.refl w).alloc _) b1⟩

set_option maxHeartbeats 400000 in
theorem groupKey_spec (m x : Int) (w : World) :
    Calls Try.prog 15 #[.int .i64 m, .int .i64 x] w fun e w' => e = .returned (.int .i64 (max 1 (khash m [93, x]))) ∧ Ext w w' := by
  have r := Rd.new w 3 (ints [93, x]) 2 1 rfl
  have R := Lib.hid r
  clear r
  obtain ⟨k1, k2⟩ := khash_bd m [93, x]
  go_enter Try.func15, Try.ntmps15
  go_wp2_with fail
  refine (keyed_spec _ _ _ _ [93, x] (by omega) _ R.out).mono ?_
  rintro e w1 ⟨rfl, b1⟩
  go_wp2_with fail
  refine (max_spec _ _ _).mono ?_
  rintro e w2 ⟨rfl, rfl⟩
  go_wp2_with fail
  go_ret
  exact ⟨rfl, Ext.trans ((Ext.refl w).alloc _) b1⟩

set_option maxHeartbeats 400000 in
theorem memberKey_spec (m x : Int) (w : World) :
    Calls Try.prog 17 #[.int .i64 m, .int .i64 x] w fun e w' => e = .returned (.int .i64 (max 1 (khash m [91, x]))) ∧ Ext w w' := by
  have r := Rd.new w 3 (ints [91, x]) 2 1 rfl
  have R := Lib.hid r
  clear r
  obtain ⟨k1, k2⟩ := khash_bd m [91, x]
  go_enter Try.func17, Try.ntmps17
  go_wp2_with fail
  refine (keyed_spec _ _ _ _ [91, x] (by omega) _ R.out).mono ?_
  rintro e w1 ⟨rfl, b1⟩
  go_wp2_with fail
  refine (max_spec _ _ _).mono ?_
  rintro e w2 ⟨rfl, rfl⟩
  go_wp2_with fail
  go_ret
  exact ⟨rfl, Ext.trans ((Ext.refl w).alloc _) b1⟩

set_option maxHeartbeats 400000 in
theorem nodeKey_spec (m x : Int) (w : World) :
    Calls Try.prog 19 #[.int .i64 m, .int .i64 x] w fun e w' => e = .returned (.int .i64 (max 1 (khash m [101, x]))) ∧ Ext w w' := by
  have r := Rd.new w 3 (ints [101, x]) 2 1 rfl
  have R := Lib.hid r
  clear r
  obtain ⟨k1, k2⟩ := khash_bd m [101, x]
  go_enter Try.func19, Try.ntmps19
  go_wp2_with fail
  refine (keyed_spec _ _ _ _ [101, x] (by omega) _ R.out).mono ?_
  rintro e w1 ⟨rfl, b1⟩
  go_wp2_with fail
  refine (max_spec _ _ _).mono ?_
  rintro e w2 ⟨rfl, rfl⟩
  go_wp2_with fail
  go_ret
  exact ⟨rfl, Ext.trans ((Ext.refl w).alloc _) b1⟩

end Go.Proofs.Ytekelmhlpinimaa
