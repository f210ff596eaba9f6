/-
  The cursor of what is drawn: its bytes, small numbers, chances.
-/
import Derived.Test.YtmnbpamaiboghaaSdFf
namespace Go.Proofs.Ytmnbpamaiboghaa
set_option linter.unusedVariables false
set_option linter.unusedSimpArgs false
set_option maxRecDepth 100000
set_option maxHeartbeats 4000000
attribute [local irreducible] Fn
/-- The code, the place in it, the mixing word. -/
abbrev Cur : Type := List Int × Nat × Int
abbrev curA (c : Cur) : AV := .cons (.ri false .u8 c.1) (.cons (.I c.2.1) (.cons (.I c.2.2) .nil))
def cw (h : Int) : Int := IntKind.i64.wrap (IntKind.i64.wrap (h * 6364136223846793005) + 1442695040888963407)
def cx0 (h : Int) : Int := bitsA .and .i64 (bitsA .xor .i64 ((cw h).fdiv (2 ^ min (Int.toNat 33) IntKind.i64.bits)) ((cw h).fdiv (2 ^ min (Int.toNat 47) IntKind.i64.bits))) 255
/-- The cursor after a byte; the byte. -/
def cu1 (c : Cur) : Cur := (c.1, (if c.2.1 < c.1.length then c.2.1 + 1 else c.2.1), cw c.2.2)
def cx (c : Cur) : Int := if c.2.1 < c.1.length then bitsA .and .i64 (IntKind.i64.wrap (cx0 c.2.2 + IntKind.i64.wrap (c.1.getD c.2.1 0))) 255 else cx0 c.2.2
def CurOk (c : Cur) : Prop := c.1.length ≤ 1048576 ∧ c.2.1 ≤ c.1.length
theorem CurOk.next {c : Cur} (h : CurOk c) : CurOk (cu1 c) := by
  refine ⟨h.1, ?_⟩
  show (if c.2.1 < c.1.length then c.2.1 + 1 else c.2.1) ≤ c.1.length
  have := h.2
  split <;> omega
attribute [local irreducible] cx cu1
/-- A number below n, from a byte. -/
def cBelow (c : Cur) (n : Int) : Int := cx c % n
theorem cBelow_bd {c : Cur} {n : Int} (h : 1 ≤ n) : 0 ≤ cBelow c n ∧ cBelow c n < n := ⟨Int.emod_nonneg _ (by omega), Int.emod_lt_of_pos _ (by omega)⟩
attribute [local irreducible] cBelow
def cmix (code : List Int) : Nat → Int
  | 0 => 193017 + code.length
  | i + 1 => bitsA .and .i64 (IntKind.i64.wrap (IntKind.i64.wrap (IntKind.i64.wrap (cmix code i * 137) + IntKind.i64.wrap (code.getD i 0)) + 11)) 1073741823
def cur0 (code : List Int) : Cur := (code, 0, cmix code (min code.length 4000))
end Go.Proofs.Ytmnbpamaiboghaa
