/-
  A rate control as an argument of a law; toRateControl.
-/
import Derived.Test.YtdekbjaejlhkcaaOpen
import Derived.Test.YtdekbjaejlhkcaaCtl
namespace Go.Proofs.Ytdekbjaejlhkcaa
open Go.ChangeShapes Go.WideShapes Go.ChangeAt Go.RowKit

theorem open_ctl {H : Type} {enc : TypeId × Value → H} {w : World} {base : Nat} {spare : Nat → Bool} {held : Bool} {r : Reach} {b0 : Nat} {v : Value} {d : DataW H} {p : List MemPlace}
    (hv : Value.okWide Try.prog w r b0 25 v) (h : DataW.Trod enc Try.prog w base spare held 25 v d p) :
    ∃ r c k l s : Int, v = ctl r c k l s := by
  obtain ⟨cs, n, rfl, hl, hf⟩ := open_struct Try.underlying25 hv h
  rw [show Try.prog.cellsOf 25 = 5 by kernel_rfl] at hl
  match cs, hl with
  | [c0, c1, c2, c3, c4], _ =>
    have c1' : Try.prog.cellsOf 3 = 1 := by kernel_rfl
    obtain ⟨y0, g0⟩ := hf 0 _ rfl
    obtain ⟨y1, g1⟩ := hf 1 _ rfl
    obtain ⟨y2, g2⟩ := hf 2 _ rfl
    obtain ⟨y3, g3⟩ := hf 3 _ rfl
    obtain ⟨y4, g4⟩ := hf 4 _ rfl
    obtain ⟨a0, e0, _⟩ := inner_int Try.underlying3 g0
    obtain ⟨a1, e1, _⟩ := inner_int Try.underlying3 g1
    obtain ⟨a2, e2, _⟩ := inner_int Try.underlying3 g2
    obtain ⟨a3, e3, _⟩ := inner_int Try.underlying3 g3
    obtain ⟨a4, e4, _⟩ := inner_int Try.underlying3 g4
    simp [c1'] at e0 e1 e2 e3 e4
    subst e0 e1 e2 e3 e4
    exact ⟨_, _, _, _, _, rfl⟩

theorem to_ctl (r c k l s : Int) (w : World) :
    Calls Try.prog 14 #[ctl r c k l s] w fun e w' => e = .returned (ctl r c k l s) ∧ Ext w w' := by
  go_enter Try.func14, Try.ntmps14
  go_wp2
  exact bodyPost_ret (v := ctl r c k l s) (by simp [results, Try.results14, go_sem]) rfl ⟨rfl, (((Ext.refl _).alloc _).alloc _).alloc _⟩
end Go.Proofs.Ytdekbjaejlhkcaa
