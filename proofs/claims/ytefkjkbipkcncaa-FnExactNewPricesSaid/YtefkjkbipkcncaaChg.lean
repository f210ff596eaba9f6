/-
  Words for calls that write blocks of an interval, and for memory that lies in an interval of blocks.
-/
import Derived.Test.YtefkjkbipkcncaaMem
namespace Go.Proofs.Ytefkjkbipkcncaa
open Go.ChangeShapes Go.WideShapes Go.ChangeAt Go.RowKit
set_option linter.unusedVariables false

/-- Of the blocks that were there only those from lo to below hi may have changed. -/
structure Chg (lo hi : Nat) (w w' : World) : Prop where
  os : w'.os = w.os
  tape : w'.tape = w.tape
  output : w'.output = w.output
  size : w.heap.size ≤ w'.heap.size
  block : ∀ k, k < w.heap.size → (k < lo ∨ hi ≤ k) → w'.heap[k]? = w.heap[k]?
theorem Chg.refl (lo hi : Nat) (w : World) : Chg lo hi w w := ⟨rfl, rfl, rfl, Nat.le_refl _, fun _ _ _ => rfl⟩
theorem Chg.trans {lo hi : Nat} {a b c : World} (h : Chg lo hi a b) (k : Chg lo hi b c) : Chg lo hi a c :=
  ⟨k.os.trans h.os, k.tape.trans h.tape, k.output.trans h.output, Nat.le_trans h.size k.size, fun i hi hn => (k.block i (Nat.lt_of_lt_of_le hi h.size) hn).trans (h.block i hi hn)⟩
theorem Chg.mono {lo hi lo' hi' : Nat} {a b : World} (h : Chg lo hi a b) (h1 : lo' ≤ lo) (h2 : hi ≤ hi') : Chg lo' hi' a b :=
  ⟨h.os, h.tape, h.output, h.size, fun k hk hn => h.block k hk (by omega)⟩
theorem Chg.of_ext {lo hi : Nat} {a b : World} (h : Ext a b) : Chg lo hi a b := ⟨h.os, h.tape, h.output, h.size, fun k hk _ => h.block k hk⟩
theorem Chg.of_grown {lo hi : Nat} {a b : World} {row : Option Nat} (h : a.grownBy b row) (hr : ∀ k, row = some k → lo ≤ k ∧ k < hi) : Chg lo hi a b :=
  ⟨h.os, h.tape, h.output, h.size, fun k hk hn => h.block k hk (fun e => by have := hr k e.symm; omega)⟩
theorem Chg.cell {lo hi : Nat} {w w' : World} (h : Chg lo hi w w') (b o : Nat) (hb : b < w.heap.size) (hn : b < lo ∨ hi ≤ b) : w'.cell? ⟨b, o, none⟩ = w.cell? ⟨b, o, none⟩ := World.cell?_of_block (w := w) (h.block b hb hn)
theorem Chg.frozen {lo hi : Nat} {w w' : World} (h : Chg lo hi w w') (b o : Nat) (hb : b < w.heap.size) (hn : b < lo ∨ hi ≤ b) : w'.frozen? ⟨b, o, none⟩ = w.frozen? ⟨b, o, none⟩ := World.frozen?_of_block (w := w) (h.block b hb hn)
/-- A change behind an old world's end is none for that world. -/
theorem Chg.ext {lo hi : Nat} {w0 w w' : World} (hc : Chg lo hi w w') (h : Ext w0 w) (hl : w0.heap.size ≤ lo) : Ext w0 w' :=
  ⟨hc.os.trans h.os, hc.tape.trans h.tape, hc.output.trans h.output, Nat.le_trans h.size hc.size, fun k hk => (hc.block k (Nat.lt_of_lt_of_le hk h.size) (by omega)).trans (h.block k hk)⟩

/-- A row of the call's own whose block lies from lo to below hi. -/
def In (lo hi : Nat) (w : World) (e : TypeId) (size : Nat) (v : Value) (n : Nat) (cs : List Value) : Prop := w.ownsRow lo e size v n cs ∧ ∀ k, v.ownBlock = some k → k < hi
section
variable {lo hi : Nat} {w w' : World} {e : TypeId} {size : Nat} {v : Value} {n : Nat} {cs : List Value}
theorem In.of_own (h : w.ownsRow lo e size v n cs) : In lo w.heap.size w e size v n cs := ⟨h, fun k hk => (h.lt k hk).2⟩
theorem In.ext (h : In lo hi w e size v n cs) (he : Ext w w') : In lo hi w' e size v n cs := ⟨own_ext h.1 he, h.2⟩
theorem In.mono {lo' hi' : Nat} (h : In lo hi w e size v n cs) (h1 : lo' ≤ lo) (h2 : hi ≤ hi') : In lo' hi' w e size v n cs := ⟨own_lower h.1 h1, fun k hk => Nat.lt_of_lt_of_le (h.2 k hk) h2⟩
theorem In.chg {lo' hi' : Nat} (h : In lo hi w e size v n cs) (hc : Chg lo' hi' w w') (hd : hi ≤ lo' ∨ hi' ≤ lo) : In lo hi w' e size v n cs := by
  refine ⟨?_, h.2⟩
  rcases h.1 with ⟨h1, h2 | ⟨g, cap, cur, rfl, hg, hh, h3⟩⟩
  · exact ⟨h1, .inl h2⟩
  · have hlt := h.2 g rfl
    exact ⟨h1, .inr ⟨g, cap, cur, rfl, hg, (hc.block g (by
      rcases Nat.lt_or_ge g w.heap.size with hlt | hge
      · exact hlt
      · rw [Array.getElem?_eq_none hge] at hh; cases hh) (by omega)).trans hh, h3⟩⟩
theorem In.rd {A : Option Addr} {c : Nat} (h : In lo hi w e size (.slice A n c) n cs) : Rd w size A n cs := Rd.of_own h.1
theorem In.rdv {A : Option Addr} {c m : Nat} (h : In lo hi w e size (.slice A m c) n cs) : Rd w size A n cs := by
  obtain ⟨A', c', hv, _⟩ := own_form h.1
  injection hv with h1 h2 h3
  subst h1 h2 h3
  exact Rd.of_own h.1
theorem In.rng (h : In lo hi w e size v n cs) : ∀ k, v.ownBlock = some k → lo ≤ k ∧ k < hi := fun k hk => ⟨(h.1.lt k hk).1, h.2 k hk⟩
theorem In.grown {cs' : List Value} (h : In lo hi w e size v n cs) (ho : w'.ownsRow lo e size v n cs') (hg : w.grownBy w' v.ownBlock) : In lo hi w' e size v n cs' ∧ Chg lo hi w w' :=
  ⟨⟨ho, h.2⟩, Chg.of_grown hg h.rng⟩
end
/-- A slice in new memory is handed back. -/
def NewS (w : World) (e : TypeId) (size : Nat) (n : Nat) (cs : List Value) (en : Ending) (w' : World) : Prop :=
  ∃ A c, en = .returned (.slice A n c) ∧ In w.heap.size w'.heap.size w' e size (.slice A n c) n cs ∧ Ext w w'
/-- The same inside another value. -/
def NewV (f : Value → Value) (w : World) (e : TypeId) (size : Nat) (n : Nat) (cs : List Value) (en : Ending) (w' : World) : Prop :=
  ∃ A c, en = .returned (f (.slice A n c)) ∧ In w.heap.size w'.heap.size w' e size (.slice A n c) n cs ∧ Ext w w'
end Go.Proofs.Ytefkjkbipkcncaa
