/-
  KeyedHash of the program and of the reference.
-/
import Derived.Test.YtmnbpamaiboghaaSgConcat
namespace Go.Proofs.Ytmnbpamaiboghaa
open Go.ChangeShapes Go.WideShapes Go.ChangeAt Go.RowKit
set_option linter.unusedVariables false

/-- The keyed hash of a list. -/
def khash (key : Int) (xs : List Int) : Int := hash ([key] ++ xs ++ [key])
theorem khash_bd (key : Int) (xs : List Int) : 0 ≤ khash key xs ∧ khash key xs < 2147483647 := hash_bd _

set_option maxHeartbeats 800000 in
theorem keyed_impl (key : Int) (A : Option Addr) (n c : Nat) (xs : List Int) (hn : n ≤ 2199023255552) (w : World) (hr : Rd w 1 A n (ints xs)) :
    Calls Try.prog 128 #[.int .i64 key, .slice A n c] w fun e w' => e = .returned (.int .i64 (khash key xs)) ∧ Ext w w' := by
  have hl := hr.len
  have r1 := Rd.new w 3 [.int .i64 key] 1 1 rfl
  have r2 := Rd.new (w.alloc (.cells #[.int .i64 key] 3)) 3 [.int .i64 key] 1 1 rfl
  have r3 := Rd.new ((w.alloc (.cells #[.int .i64 key] 3)).alloc (.cells #[.int .i64 key] 3)) 25 [.slice (some ⟨w.heap.size, 0, none⟩) 1 1, .slice A n c, .slice (some ⟨w.heap.size + 1, 0, none⟩) 1 1] 3 1 rfl
  simp only [World.size_alloc] at r2 r3
  have r0 := ((hr.alloc (.cells #[.int .i64 key] 3)).alloc (.cells #[.int .i64 key] 3)).alloc (.cells #[.slice (some ⟨w.heap.size, 0, none⟩) 1 1, .slice A n c, .slice (some ⟨w.heap.size + 1, 0, none⟩) 1 1] 25)
  have r1' := (r1.alloc (.cells #[.int .i64 key] 3)).alloc (.cells #[.slice (some ⟨w.heap.size, 0, none⟩) 1 1, .slice A n c, .slice (some ⟨w.heap.size + 1, 0, none⟩) 1 1] 25)
  have r2' := r2.alloc (.cells #[.slice (some ⟨w.heap.size, 0, none⟩) 1 1, .slice A n c, .slice (some ⟨w.heap.size + 1, 0, none⟩) 1 1] 25)
  have hcat := concat_any (some ⟨w.heap.size + 1 + 1, 0, none⟩) 3 3 [⟨some ⟨w.heap.size, 0, none⟩, 1, 1, [key]⟩, ⟨A, n, c, xs⟩, ⟨some ⟨w.heap.size + 1, 0, none⟩, 1, 1, [key]⟩] (by omega) _ r3
    (by intro s hs; simp only [List.mem_cons, List.not_mem_nil, or_false] at hs; rcases hs with rfl | rfl | rfl; exact r1'; exact r0; exact r2')
    (by simp [flat]; omega)
  have HC := Lib.hid hcat
  have hfl : flat [⟨some ⟨w.heap.size, 0, none⟩, 1, 1, [key]⟩, ⟨A, n, c, xs⟩, ⟨some ⟨w.heap.size + 1, 0, none⟩, 1, 1, [key]⟩] = [key] ++ xs ++ [key] := by simp [flat]
  have HF := Lib.hid hfl
  have HN := Lib.hid hl
  clear hcat hfl r0 r1 r2 r3 r1' r2' hl
  go_enter Try.func128, Try.ntmps128
  go_wp2_with fail
  refine HC.out.mono ?_
  rintro e w1 ⟨v, rfl, hown, hext⟩
  rw [HF.out] at hown
  generalize hN : ([key] ++ xs ++ [key]).length = N at hown
  have hb : N ≤ 2199023255554 := by have := HN.out; rw [← hN]; simp; omega
  clear hN
  obtain ⟨A', c', rfl, h1, h2⟩ := own_form hown
  have hrd := Lib.hid (Rd.of_own hown)
  clear hown
  go_wp2_with fail
  refine (hash_impl _ _ _ _ _ (by omega) hrd.out).mono ?_
  rintro e w2 ⟨rfl, rfl⟩
  go_wp2_with fail
  go_ret
  exact ⟨rfl, Ext.trans (((((Ext.refl w).alloc _).alloc _).alloc _)) hext⟩

end Go.Proofs.Ytmnbpamaiboghaa
