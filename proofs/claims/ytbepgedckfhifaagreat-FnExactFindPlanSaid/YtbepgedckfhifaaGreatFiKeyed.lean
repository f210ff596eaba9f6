/-
  KeyedHash of the program and of the reference.
-/
import Derived.Test.YtbepgedckfhifaaGreatFiConcat
namespace Go.Proofs.YtbepgedckfhifaaGreat
open Go.ChangeShapes Go.WideShapes Go.ChangeAt Go.RowKit
set_option linter.unusedVariables false
def khash (key : Int) (xs : List Int) : Int := hash ([key] ++ xs ++ [key])
theorem khash_bd (key : Int) (xs : List Int) : 0 ≤ khash key xs ∧ khash key xs < 2147483647 := hash_bd _
set_option maxHeartbeats 800000 in
theorem keyed_impl (key : Int) (A : Option Addr) (n c : Nat) (xs : List Int) (hn : n ≤ 2199023255552) (w : World) (hr : Rd w 1 A n (ints xs)) :
    Calls Tryz.prog 82 #[.int .i64 key, .slice A n c] w fun e w' => e = .returned (.int .i64 (khash key xs)) ∧ Ext w w' := by
  have hl := hr.len
  have r1 := Rd.new w 3 [.int .i64 key] 1 1 rfl
  have r2 := Rd.new (w.alloc (.cells #[.int .i64 key] 3)) 3 [.int .i64 key] 1 1 rfl
  have r3 := Rd.new ((w.alloc (.cells #[.int .i64 key] 3)).alloc (.cells #[.int .i64 key] 3)) 22 [.slice (some ⟨w.heap.size, 0, none⟩) 1 1, .slice A n c, .slice (some ⟨w.heap.size + 1, 0, none⟩) 1 1] 3 1 rfl
  simp only [World.size_alloc] at r2 r3
  have r0 := ((hr.alloc (.cells #[.int .i64 key] 3)).alloc (.cells #[.int .i64 key] 3)).alloc (.cells #[.slice (some ⟨w.heap.size, 0, none⟩) 1 1, .slice A n c, .slice (some ⟨w.heap.size + 1, 0, none⟩) 1 1] 22)
  have r1' := (r1.alloc (.cells #[.int .i64 key] 3)).alloc (.cells #[.slice (some ⟨w.heap.size, 0, none⟩) 1 1, .slice A n c, .slice (some ⟨w.heap.size + 1, 0, none⟩) 1 1] 22)
  have r2' := r2.alloc (.cells #[.slice (some ⟨w.heap.size, 0, none⟩) 1 1, .slice A n c, .slice (some ⟨w.heap.size + 1, 0, none⟩) 1 1] 22)
  have hcat := concat_any (some ⟨w.heap.size + 1 + 1, 0, none⟩) 3 3 [⟨some ⟨w.heap.size, 0, none⟩, 1, 1, [key]⟩, ⟨A, n, c, xs⟩, ⟨some ⟨w.heap.size + 1, 0, none⟩, 1, 1, [key]⟩] (by omega) _ r3
    (by intro s hs; simp only [List.mem_cons, List.not_mem_nil, or_false] at hs; rcases hs with rfl | rfl | rfl; exact r1'; exact r0; exact r2')
    (by simp [flat]; omega)
  have HC := Lib.hid hcat
  have hfl : flat [⟨some ⟨w.heap.size, 0, none⟩, 1, 1, [key]⟩, ⟨A, n, c, xs⟩, ⟨some ⟨w.heap.size + 1, 0, none⟩, 1, 1, [key]⟩] = [key] ++ xs ++ [key] := by simp [flat]
  have HF := Lib.hid hfl
  have HN := Lib.hid hl
  clear hcat hfl r0 r1 r2 r3 r1' r2' hl
  go_enter Tryz.func82, Tryz.ntmps82
  go_wp2_with fail
  refine HC.out.mono ?_
  rintro e w1 ⟨v, rfl, hown, hext⟩
  rw [HF.out] at hown
  generalize hN : ([key] ++ xs ++ [key]).length = N at hown
  have hb : N ≤ 2199023255554 := by have := HN.out; rw [← hN]; simp; omega
  clear hN
  obtain ⟨A', c', rfl, h1, h2⟩ := own_form hown
  have hrd := Lib.hid (Rd.of_own hown)
  clear hown
  go_wp2_with fail
  refine (hash_impl _ _ _ _ _ (by omega) hrd.out).mono ?_
  rintro e w2 ⟨rfl, rfl⟩
  go_wp2_with fail
  go_ret
  exact ⟨rfl, Ext.trans (((((Ext.refl w).alloc _).alloc _).alloc _)) hext⟩
set_option maxHeartbeats 800000 in
theorem keyed_spec (key : Int) (A : Option Addr) (n c : Nat) (xs : List Int) (hn : n ≤ 2199023255552) (w : World) (hr : Rd w 1 A n (ints xs)) :
    Calls Tryz.prog 70 #[.int .i64 key, .slice A n c] w fun e w' => e = .returned (.int .i64 (khash key xs)) ∧ Ext w w' := by
  have HN := Lib.hid hr.len
  have o1 : (w.alloc (.cells #[.int .i64 key] 3)).ownsRow w.heap.size 3 1 (.slice (some ⟨w.heap.size, 0, none⟩) 1 1) 1 (ints [key]) := own_new w 3 [.int .i64 key] 1 1 1 w.heap.size (Nat.le_refl _) rfl (by omega) (by unfold maxLen; omega)
  have O1 := Lib.hid o1
  have R0 := Lib.hid (hr.alloc (.cells #[.int .i64 key] 3))
  have E1 : Ext w (w.alloc (.cells #[.int .i64 key] 3)) := (Ext.refl w).alloc _
  clear o1 hr
  go_enter Tryz.func70, Tryz.ntmps70
  go_wp2_with (at_builtin; first | (refine wpList_append_int _ rfl _ _ rfl w.heap.size _ _ _ rfl O1.out _ _ _ _ rfl R0.out (by omega) (by simp) ?_; intro v2 w2 o2 g2 _; have E2 := ext_grown_own E1 O1.out g2 (Nat.le_refl _); have hz := E2.size) | (refine wpList_append_int _ rfl _ _ rfl w.heap.size _ _ _ rfl (o2.alloc _) _ _ _ _ rfl (Rd.new w2 3 (ints [key]) 1 1 rfl) (by omega) (by simp; omega) ?_; intro v4 w4 o4 g4 _))
  have E3 := E2.alloc (.cells #[.int .i64 key] 3)
  have E4 := ext_grown_own E3 (o2.alloc _) g4 (Nat.le_refl _)
  obtain ⟨A', c', rfl, h1, h2⟩ := own_form o4
  have hrd := Lib.hid (Rd.of_own o4)
  clear o4 g4
  go_wp2_with fail
  refine (hash_spec _ _ _ _ _ (by omega) hrd.out).mono ?_
  rintro e w5 ⟨rfl, rfl⟩
  go_wp2_with fail
  go_ret
  exact ⟨rfl, E4⟩
end Go.Proofs.YtbepgedckfhifaaGreat
