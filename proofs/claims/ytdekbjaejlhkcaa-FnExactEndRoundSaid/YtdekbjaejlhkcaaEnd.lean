/-
  EndRound of the program and of the reference.
-/
import Derived.Test.YtdekbjaejlhkcaaTake
import Derived.Test.YtdekbjaejlhkcaaEndI
import Derived.Test.YtdekbjaejlhkcaaEndS
namespace Go.Proofs.Ytdekbjaejlhkcaa
open Go.ChangeShapes Go.WideShapes Go.ChangeAt Go.RowKit
set_option linter.unusedVariables false

/-- The rate and the stalled rounds after a round. -/
def erp (r c l s m : Int) : Int × Int := if m = 0 ∨ l = 0 ∨ m < l then (min (r + 1) c, 0) else if s = 2 then (max (r / 2) 1, 0) else (r, s + 1)
/-- What EndRound returns. -/
def erv (r c k l s m : Int) : Value := if vcB r c k l s = true ∧ 0 ≤ m ∧ m ≤ 1000000000000 then ctl (erp r c l s m).1 c (erp r c l s m).1 m (erp r c l s m).2 else ctl r c k l s
theorem end_impl (r c k l s m : Int) (w : World) :
    Calls Try.prog 26 #[ctl r c k l s, .int .i64 m] w fun e w' => e = .returned (erv r c k l s m) ∧ Ext w w' := by
  by_cases hv : vcB r c k l s = true
  case neg =>
    have hv' : vcB r c k l s = false := by simpa using hv
    rw [show erv r c k l s m = ctl r c k l s by simp [erv, hv']]
    exact end_impl_a r c k l s m hv' w
  obtain ⟨v1, v2, v3, v4, v5, v6, v7, v8, v9, v10⟩ := vc_of hv
  by_cases h0 : 0 ≤ m
  case neg =>
    rw [show erv r c k l s m = ctl r c k l s by simp [erv, h0]]
    exact end_impl_b r c k l s m hv (by omega) w
  by_cases h1 : m ≤ 1000000000000
  case neg =>
    rw [show erv r c k l s m = ctl r c k l s by simp [erv, h1]]
    exact end_impl_c r c k l s m hv h0 (by simpa using h1) w
  rw [show erv r c k l s m = ctl (erp r c l s m).1 c (erp r c l s m).1 m (erp r c l s m).2 by simp [erv, hv, h0, h1]]
  by_cases hm : m = 0
  case pos =>
    subst hm
    by_cases e1 : c = r
    case pos => subst e1; rw [show erp c c l s 0 = (c, 0) by simp [erp]; omega]; exact end_impl_me c k l s hv (by omega) (by omega) w
    by_cases e2 : c = r + 1
    case pos => subst e2; rw [show erp r (r + 1) l s 0 = (r + 1, 0) by simp [erp]]; exact end_impl_ms r k l s hv (by omega) (by omega) w
    rw [show erp r c l s 0 = (r + 1, 0) by simp [erp]; omega]; exact end_impl_mt r c k l s hv (by omega) (by omega) (by omega) w
  by_cases hl : l = 0
  case pos =>
    subst hl
    by_cases e1 : c = r
    case pos => subst e1; rw [show erp c c 0 s m = (c, 0) by simp [erp]; omega]; exact end_impl_le c k s m hv (by simpa using hm) (by omega) (by omega) (by omega) (by omega) w
    by_cases e2 : c = r + 1
    case pos => subst e2; rw [show erp r (r + 1) 0 s m = (r + 1, 0) by simp [erp]]; exact end_impl_ls r k s m hv (by simpa using hm) (by omega) (by omega) (by omega) (by omega) w
    rw [show erp r c 0 s m = (r + 1, 0) by simp [erp]; omega]; exact end_impl_lt r c k s m hv (by simpa using hm) (by omega) (by omega) (by omega) (by omega) (by omega) w
  by_cases hd : m < l
  case pos =>
    by_cases e1 : c = r
    case pos => subst e1; rw [show erp c c l s m = (c, 0) by simp [erp, hd]; omega]; exact end_impl_de c k l s m hv (by simpa using hm) (by simpa using hl) hd (by omega) (by omega) (by omega) (by omega) w
    by_cases e2 : c = r + 1
    case pos => subst e2; rw [show erp r (r + 1) l s m = (r + 1, 0) by simp [erp, hd]]; exact end_impl_ds r k l s m hv (by simpa using hm) (by simpa using hl) hd (by omega) (by omega) (by omega) (by omega) w
    rw [show erp r c l s m = (r + 1, 0) by simp [erp, hd]; omega]; exact end_impl_dt r c k l s m hv (by simpa using hm) (by simpa using hl) hd (by omega) (by omega) (by omega) (by omega) (by omega) w
  by_cases hs : s = 2
  case pos =>
    subst hs
    by_cases r1 : r = 1
    case pos => subst r1; rw [show erp 1 c l 2 m = (1, 0) by simp [erp, hm, hl, hd] <;> omega]; exact end_impl_h1 c k l m hv (by simpa using hm) (by simpa using hl) hd h0 h1 w
    by_cases r2 : r = 2
    case pos => subst r2; rw [show erp 2 c l 2 m = (1, 0) by simp [erp, hm, hl, hd] <;> omega]; exact end_impl_h2 c k l m hv (by simpa using hm) (by simpa using hl) hd h0 h1 w
    by_cases r3 : r = 3
    case pos => subst r3; rw [show erp 3 c l 2 m = (1, 0) by simp [erp, hm, hl, hd] <;> omega]; exact end_impl_h3 c k l m hv (by simpa using hm) (by simpa using hl) hd h0 h1 w
    rw [show erp r c l 2 m = (r / 2, 0) by simp [erp, hm, hl, hd]; omega]; exact end_impl_h4 r c k l m hv (by simpa using hm) (by simpa using hl) hd h0 h1 (by omega) (by omega) w
  rw [show erp r c l s m = (r, s + 1) by simp [erp, hm, hl, hd, hs]]
  exact end_impl_k r c k l s m hv (by simpa using hm) (by simpa using hl) hd h0 h1 (by omega) (by omega) (by simp; omega) w

theorem end_spec (r c k l s m : Int) (w : World) :
    Calls Try.prog 25 #[ctl r c k l s, .int .i64 m] w fun e w' => e = .returned (erv r c k l s m) ∧ Ext w w' := by
  by_cases hv : vcB r c k l s = true
  case neg =>
    have hv' : vcB r c k l s = false := by simpa using hv
    rw [show erv r c k l s m = ctl r c k l s by simp [erv, hv']]
    exact end_spec_a r c k l s m hv' w
  obtain ⟨v1, v2, v3, v4, v5, v6, v7, v8, v9, v10⟩ := vc_of hv
  by_cases h0 : 0 ≤ m
  case neg =>
    rw [show erv r c k l s m = ctl r c k l s by simp [erv, h0]]
    exact end_spec_b r c k l s m hv (by omega) w
  by_cases h1 : m ≤ 1000000000000
  case neg =>
    rw [show erv r c k l s m = ctl r c k l s by simp [erv, h1]]
    exact end_spec_c r c k l s m hv h0 (by simpa using h1) w
  rw [show erv r c k l s m = ctl (erp r c l s m).1 c (erp r c l s m).1 m (erp r c l s m).2 by simp [erv, hv, h0, h1]]
  by_cases hm : m = 0
  case pos =>
    subst hm
    by_cases e1 : c = r
    case pos => subst e1; rw [show erp c c l s 0 = (c, 0) by simp [erp]; omega]; exact end_spec_me c k l s hv (by omega) (by omega) w
    by_cases e2 : c = r + 1
    case pos => subst e2; rw [show erp r (r + 1) l s 0 = (r + 1, 0) by simp [erp]]; exact end_spec_ms r k l s hv (by omega) (by omega) w
    rw [show erp r c l s 0 = (r + 1, 0) by simp [erp]; omega]; exact end_spec_mt r c k l s hv (by omega) (by omega) (by omega) w
  by_cases hl : l = 0
  case pos =>
    subst hl
    by_cases e1 : c = r
    case pos => subst e1; rw [show erp c c 0 s m = (c, 0) by simp [erp]; omega]; exact end_spec_le c k s m hv (by simpa using hm) (by omega) (by omega) (by omega) (by omega) w
    by_cases e2 : c = r + 1
    case pos => subst e2; rw [show erp r (r + 1) 0 s m = (r + 1, 0) by simp [erp]]; exact end_spec_ls r k s m hv (by simpa using hm) (by omega) (by omega) (by omega) (by omega) w
    rw [show erp r c 0 s m = (r + 1, 0) by simp [erp]; omega]; exact end_spec_lt r c k s m hv (by simpa using hm) (by omega) (by omega) (by omega) (by omega) (by omega) w
  by_cases hd : m < l
  case pos =>
    by_cases e1 : c = r
    case pos => subst e1; rw [show erp c c l s m = (c, 0) by simp [erp, hd]; omega]; exact end_spec_de c k l s m hv (by simpa using hm) (by simpa using hl) hd (by omega) (by omega) (by omega) (by omega) w
    by_cases e2 : c = r + 1
    case pos => subst e2; rw [show erp r (r + 1) l s m = (r + 1, 0) by simp [erp, hd]]; exact end_spec_ds r k l s m hv (by simpa using hm) (by simpa using hl) hd (by omega) (by omega) (by omega) (by omega) w
    rw [show erp r c l s m = (r + 1, 0) by simp [erp, hd]; omega]; exact end_spec_dt r c k l s m hv (by simpa using hm) (by simpa using hl) hd (by omega) (by omega) (by omega) (by omega) (by omega) w
  by_cases hs : s = 2
  case pos =>
    subst hs
    by_cases r1 : r = 1
    case pos => subst r1; rw [show erp 1 c l 2 m = (1, 0) by simp [erp, hm, hl, hd] <;> omega]; exact end_spec_h1 c k l m hv (by simpa using hm) (by simpa using hl) hd h0 h1 w
    by_cases r2 : r = 2
    case pos => subst r2; rw [show erp 2 c l 2 m = (1, 0) by simp [erp, hm, hl, hd] <;> omega]; exact end_spec_h2 c k l m hv (by simpa using hm) (by simpa using hl) hd h0 h1 w
    by_cases r3 : r = 3
    case pos => subst r3; rw [show erp 3 c l 2 m = (1, 0) by simp [erp, hm, hl, hd] <;> omega]; exact end_spec_h3 c k l m hv (by simpa using hm) (by simpa using hl) hd h0 h1 w
    rw [show erp r c l 2 m = (r / 2, 0) by simp [erp, hm, hl, hd]; omega]; exact end_spec_h4 r c k l m hv (by simpa using hm) (by simpa using hl) hd h0 h1 (by omega) (by omega) w
  rw [show erp r c l s m = (r, s + 1) by simp [erp, hm, hl, hd, hs]]
  exact end_spec_k r c k l s m hv (by simpa using hm) (by simpa using hl) hd h0 h1 (by omega) (by omega) (by simp; omega) w

end Go.Proofs.Ytdekbjaejlhkcaa
