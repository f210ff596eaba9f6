/-
  make([]int, n).
-/
import Derived.Test.YtefkjkbipkcncaaInts
import Derived.Test.YtefkjkbipkcncaaChg
import Derived.Laws.MakeOwn
import Derived.Deep.OwnRows
namespace Go.Proofs.Ytefkjkbipkcncaa
open Go.ChangeShapes Go.WideShapes Go.ChangeAt Go.RowKit
set_option linter.unusedVariables false

/-- A price of 0 for each of n edges. -/
def zerosD (n : Nat) : List Int := List.replicate n 0
theorem zerosD_len (n : Nat) : (zerosD n).length = n := by simp [zerosD]
theorem own_made_ints (w : World) (n : Nat) (hn : n ≤ 17592186044416) : In w.heap.size (w.heap.size + 1) (w.alloc (.cells (madeCells #[.int .i64 0] n) 3)) 3 1 (.slice (some ⟨w.heap.size, 0, none⟩) n n) n (ints (zerosD n)) := by
  refine ⟨⟨by simp [zerosD], .inr ⟨w.heap.size, n, _, rfl, Nat.le_refl _, heap_alloc_new w _, Nat.le_refl _, by unfold maxLen; omega, by simp [size_madeCells], ?_⟩⟩, fun k hk => by simp [Value.ownBlock] at hk; omega⟩
  rw [toList_madeCells_one]
  simp [zerosD]
theorem make_ints (n : Nat) (hn : n ≤ 17592186044416) : ∀ W : World, (Instr.makeSlice 38 (.int .i64 (n : Int)) (.int .i64 (n : Int))).run Try.prog W = .ok (.slice (some ⟨W.heap.size, 0, none⟩) n n) (W.alloc (.cells (madeCells #[.int .i64 0] n) 3)) := fun W => run_make_row' (P := Try.prog) 38 3 (.int .i64 0) 8 Try.underlying38 (by kernel_rfl) rfl .i64 .i64 n (by omega) (by omega) W
theorem held_ints_e (A : Option Addr) (n c : Nat) (k : Int) (hk0 : 0 ≤ k) (hk : k + n ≤ 4611686018427387904) (w : World) (ha : Rd w 1 A n (ints (upfrom k n))) :
    Calls Try.prog 64 #[.slice A n c, .int .i64 k] w fun e w' => e = .returned (.int .i64 (k + n)) ∧ Ext w w' := (held_ints A n c k hk0 hk w ha).mono fun _ _ ⟨h1, h2⟩ => ⟨h1, h2.ext⟩

end Go.Proofs.Ytefkjkbipkcncaa
