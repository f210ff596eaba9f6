/-
  The contracts of IsValidControl (program and reference): both compute vcB.
-/
import Derived.Test.YtdekbjaejlhkcaaBase
namespace Go.Proofs.Ytdekbjaejlhkcaa
open Go.ChangeShapes Go.WideShapes Go.ChangeAt Go.RowKit

/-- A rate control is valid. -/
def vcB (r c k l s : Int) : Bool := decide (1 ≤ c ∧ c ≤ 8 ∧ 1 ≤ r ∧ r ≤ c ∧ 0 ≤ k ∧ k ≤ r ∧ 0 ≤ l ∧ l ≤ 1000000000000 ∧ 0 ≤ s ∧ s ≤ 2)

abbrev ctl (r c k l s : Int) : Value := .agg #[.int .i64 r, .int .i64 c, .int .i64 k, .int .i64 l, .int .i64 s]

set_option maxHeartbeats 1000000 in
theorem valid_impl (r c k l s : Int) (w : World) :
    Calls Try.prog 15 #[ctl r c k l s] w fun e w' => e = .returned (.bool (vcB r c k l s)) ∧ Ext w w' := by
  by_cases h0 : 1 ≤ c
  case neg =>
    have hv : vcB r c k l s = false := by simp [vcB]; omega
    rw [hv]
    clear hv
    go_enter Try.func15, Try.ntmps15
    go_wp2
    go_ret
    exact ⟨rfl, (Ext.refl _).alloc _⟩
  by_cases h1 : c ≤ 8
  case neg =>
    have hv : vcB r c k l s = false := by simp [vcB]; omega
    rw [hv]
    clear hv
    go_enter Try.func15, Try.ntmps15
    go_wp2
    go_ret
    exact ⟨rfl, (Ext.refl _).alloc _⟩
  by_cases h2 : 1 ≤ r
  case neg =>
    have hv : vcB r c k l s = false := by simp [vcB]; omega
    rw [hv]
    clear hv
    go_enter Try.func15, Try.ntmps15
    go_wp2
    go_ret
    exact ⟨rfl, (Ext.refl _).alloc _⟩
  by_cases h3 : r ≤ c
  case neg =>
    have hv : vcB r c k l s = false := by simp [vcB]; omega
    rw [hv]
    clear hv
    go_enter Try.func15, Try.ntmps15
    go_wp2
    go_ret
    exact ⟨rfl, (Ext.refl _).alloc _⟩
  by_cases h4 : 0 ≤ k
  case neg =>
    have hv : vcB r c k l s = false := by simp [vcB]; omega
    rw [hv]
    clear hv
    go_enter Try.func15, Try.ntmps15
    go_wp2
    go_ret
    exact ⟨rfl, (Ext.refl _).alloc _⟩
  by_cases h5 : k ≤ r
  case neg =>
    have hv : vcB r c k l s = false := by simp [vcB]; omega
    rw [hv]
    clear hv
    go_enter Try.func15, Try.ntmps15
    go_wp2
    go_ret
    exact ⟨rfl, (Ext.refl _).alloc _⟩
  by_cases h6 : 0 ≤ l
  case neg =>
    have hv : vcB r c k l s = false := by simp [vcB]; omega
    rw [hv]
    clear hv
    go_enter Try.func15, Try.ntmps15
    go_wp2
    go_ret
    exact ⟨rfl, (Ext.refl _).alloc _⟩
  by_cases h7 : l ≤ 1000000000000
  case neg =>
    have hv : vcB r c k l s = false := by simp [vcB]; omega
    rw [hv]
    clear hv
    go_enter Try.func15, Try.ntmps15
    go_wp2
    go_ret
    exact ⟨rfl, (Ext.refl _).alloc _⟩
  by_cases h8 : 0 ≤ s
  case neg =>
    have hv : vcB r c k l s = false := by simp [vcB]; omega
    rw [hv]
    clear hv
    go_enter Try.func15, Try.ntmps15
    go_wp2
    go_ret
    exact ⟨rfl, (Ext.refl _).alloc _⟩
  by_cases h9 : s ≤ 2
  case neg =>
    have hv : vcB r c k l s = false := by simp [vcB]; omega
    rw [hv]
    clear hv
    go_enter Try.func15, Try.ntmps15
    go_wp2
    go_ret
    exact ⟨rfl, (Ext.refl _).alloc _⟩
  have hv : vcB r c k l s = true := by simp [vcB]; omega
  rw [hv]
  clear hv
  go_enter Try.func15, Try.ntmps15
  go_wp2
  go_ret
  exact ⟨rfl, (Ext.refl _).alloc _⟩

set_option maxHeartbeats 1000000 in
theorem valid_spec (r c k l s : Int) (w : World) :
    Calls Try.prog 13 #[ctl r c k l s] w fun e w' => e = .returned (.bool (vcB r c k l s)) ∧ Ext w w' := by
  by_cases h0 : 1 ≤ c
  case neg =>
    have hv : vcB r c k l s = false := by simp [vcB]; omega
    rw [hv]
    clear hv
    go_enter Try.func13, Try.ntmps13
    go_wp2
    go_ret
    exact ⟨rfl, (Ext.refl _).alloc _⟩
  by_cases h1 : c ≤ 8
  case neg =>
    have hv : vcB r c k l s = false := by simp [vcB]; omega
    rw [hv]
    clear hv
    go_enter Try.func13, Try.ntmps13
    go_wp2
    go_ret
    exact ⟨rfl, (Ext.refl _).alloc _⟩
  by_cases h2 : 1 ≤ r
  case neg =>
    have hv : vcB r c k l s = false := by simp [vcB]; omega
    rw [hv]
    clear hv
    go_enter Try.func13, Try.ntmps13
    go_wp2
    go_ret
    exact ⟨rfl, (Ext.refl _).alloc _⟩
  by_cases h3 : r ≤ c
  case neg =>
    have hv : vcB r c k l s = false := by simp [vcB]; omega
    rw [hv]
    clear hv
    go_enter Try.func13, Try.ntmps13
    go_wp2
    go_ret
    exact ⟨rfl, (Ext.refl _).alloc _⟩
  by_cases h4 : 0 ≤ k
  case neg =>
    have hv : vcB r c k l s = false := by simp [vcB]; omega
    rw [hv]
    clear hv
    go_enter Try.func13, Try.ntmps13
    go_wp2
    go_ret
    exact ⟨rfl, (Ext.refl _).alloc _⟩
  by_cases h5 : k ≤ r
  case neg =>
    have hv : vcB r c k l s = false := by simp [vcB]; omega
    rw [hv]
    clear hv
    go_enter Try.func13, Try.ntmps13
    go_wp2
    go_ret
    exact ⟨rfl, (Ext.refl _).alloc _⟩
  by_cases h6 : 0 ≤ l
  case neg =>
    have hv : vcB r c k l s = false := by simp [vcB]; omega
    rw [hv]
    clear hv
    go_enter Try.func13, Try.ntmps13
    go_wp2
    go_ret
    exact ⟨rfl, (Ext.refl _).alloc _⟩
  by_cases h7 : l ≤ 1000000000000
  case neg =>
    have hv : vcB r c k l s = false := by simp [vcB]; omega
    rw [hv]
    clear hv
    go_enter Try.func13, Try.ntmps13
    go_wp2
    go_ret
    exact ⟨rfl, (Ext.refl _).alloc _⟩
  by_cases h8 : 0 ≤ s
  case neg =>
    have hv : vcB r c k l s = false := by simp [vcB]; omega
    rw [hv]
    clear hv
    go_enter Try.func13, Try.ntmps13
    go_wp2
    go_ret
    exact ⟨rfl, (Ext.refl _).alloc _⟩
  by_cases h9 : s ≤ 2
  case neg =>
    have hv : vcB r c k l s = false := by simp [vcB]; omega
    rw [hv]
    clear hv
    go_enter Try.func13, Try.ntmps13
    go_wp2
    go_ret
    exact ⟨rfl, (Ext.refl _).alloc _⟩
  have hv : vcB r c k l s = true := by simp [vcB]; omega
  rw [hv]
  clear hv
  go_enter Try.func13, Try.ntmps13
  go_wp2
  go_ret
  exact ⟨rfl, (Ext.refl _).alloc _⟩
end Go.Proofs.Ytdekbjaejlhkcaa
