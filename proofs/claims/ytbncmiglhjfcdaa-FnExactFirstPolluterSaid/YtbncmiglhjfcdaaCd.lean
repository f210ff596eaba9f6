/-
  Rows of fields; the table of the types that the code names.
-/
import Derived.Test.YtbncmiglhjfcdaaCc
import Derived.Laws.CopyRow
import Derived.Laws.Cells
namespace Go.Proofs.Ytbncmiglhjfcdaa
open Go.RowKit
set_option linter.unusedVariables false

def AV.len : AV → Nat
  | .nil => 0
  | .cons _ l => l.len + 1
  | _ => 1
def AV.nth : AV → Nat → AV
  | .cons a _, 0 => a
  | .cons _ l, n + 1 => l.nth n
  | .nil, _ => .top
  | a, 0 => a
  | _, _ + 1 => .top
def AV.drop : Nat → AV → AV
  | 0, l => l
  | n + 1, .cons _ l => l.drop n
  | _ + 1, _ => .nil
def AV.take : Nat → AV → AV
  | 0, _ => .nil
  | n + 1, .cons a l => .cons a (l.take n)
  | _ + 1, a => a
def AV.app : AV → AV → AV
  | .nil, m => m
  | .cons a l, m => .cons a (l.app m)
  | a, m => .cons a m
def AV.cells : AV → AV
  | .agg l => l
  | a => a
def AV.splice (l : AV) (j : Nat) (m : AV) : AV := (l.take j).app (m.app (l.drop (j + m.len)))
/-- The value of one cell. -/
def AV.one : AV → Bool
  | .c v => v.oneCell'
  | .top => false
  | .nil => false
  | .cons _ _ => false
  | .agg _ => false
  | .tup _ => false
  | _ => true
def AV.ones : AV → Bool
  | .nil => true
  | .cons a l => a.one && l.ones
  | a => a.one

section
variable {w : World} {own : Bool → Nat → Prop} {γ : Nm → Value} {ro : Md}

theorem Reps.len : ∀ {a : AV} {us : List Value}, Reps w own γ a ro us → us.length = a.len := by
  intro a
  induction a with
  | nil => intro us h; cases (show us = [] from h); rfl
  | cons a l iha ihl => rintro us ⟨v, vs, rfl, _, h2⟩; simp [AV.len, ihl h2]
  | top => rintro us ⟨v, rfl⟩; rfl
  | e0 => rintro us ⟨v, rfl⟩; rfl
  | agg l ih => rintro us ⟨v, rfl, _⟩; rfl
  | tup l ih => rintro us ⟨v, rfl, _⟩; rfl
  | fn f l ih => rintro us ⟨v, rfl, _⟩; rfl
  | op L j => rintro us ⟨_, rfl, _⟩; rfl
  | os L => rintro us ⟨_, rfl⟩; rfl
  | om L => rintro us ⟨_, rfl⟩; rfl
  | oi e k xs => intro us h; exact h.elim
  | ow e n st cell => intro us h; exact h.elim
  | oe L st k j => rintro us ⟨_, rfl, _⟩; rfl
  | ri f q xs => rintro us ⟨_, _, rfl, _⟩; rfl
  | rs f n st cell => rintro us ⟨_, _, rfl, _⟩; rfl
  | rp f n st cell k j => rintro us ⟨_, _, rfl, _⟩; rfl
  | _ => intro us h; simp only [Reps] at h; subst h; rfl

theorem AV.nth_one {a : AV} (h : a.len = 1) (h1 : ∀ x l, a ≠ .cons x l) : a.nth 0 = a := by
  cases a with
  | nil => cases h
  | cons x l => exact absurd rfl (h1 x l)
  | _ => rfl

theorem Reps.nth : ∀ {l : AV} {us : List Value} {j : Nat}, Reps w own γ l ro us → j < l.len → ∃ u, us[j]? = some u ∧ Reps w own γ (l.nth j) ro [u] := by
  intro l
  induction l with
  | nil => intro us j h hj; cases hj
  | cons a l iha ihl =>
    rintro us j ⟨v, vs, rfl, h1, h2⟩ hj
    cases j with
    | zero => exact ⟨v, rfl, h1⟩
    | succ j =>
      obtain ⟨u, h3, h4⟩ := ihl h2 (j := j) (by simpa [AV.len] using hj)
      exact ⟨u, by simpa using h3, h4⟩
  | _ =>
    intro us j h hj
    have hl := h.len
    simp only [AV.len] at hl hj
    obtain rfl : j = 0 := by omega
    match us, hl with
    | [u], _ => exact ⟨u, rfl, h⟩

theorem Reps.drop : ∀ {l : AV} {us : List Value} (j : Nat), Reps w own γ l ro us → Reps w own γ (l.drop j) ro (us.drop j) := by
  intro l
  induction l with
  | cons a l iha ihl =>
    rintro us j ⟨v, vs, rfl, h1, h2⟩
    cases j with
    | zero => exact ⟨v, vs, rfl, h1, h2⟩
    | succ j => simpa [AV.drop] using ihl j h2
  | _ =>
    intro us j h
    cases j with
    | zero => exact h
    | succ j =>
      have hl := h.len
      simp only [AV.len] at hl
      show us.drop (j + 1) = []
      exact List.drop_eq_nil_of_le (by omega)

theorem Reps.take : ∀ {l : AV} {us : List Value} (j : Nat), Reps w own γ l ro us → Reps w own γ (l.take j) ro (us.take j) := by
  intro l
  induction l with
  | cons a l iha ihl =>
    rintro us j ⟨v, vs, rfl, h1, h2⟩
    cases j with
    | zero => rfl
    | succ j => exact ⟨v, vs.take j, by simp, h1, ihl j h2⟩
  | _ =>
    intro us j h
    cases j with
    | zero => rfl
    | succ j =>
      have hl := h.len
      simp only [AV.len] at hl
      rw [List.take_of_length_le (by omega)]
      exact h

theorem Reps.app : ∀ {l m : AV} {us vs : List Value}, Reps w own γ l ro us → Reps w own γ m ro vs → Reps w own γ (l.app m) ro (us ++ vs) := by
  intro l
  induction l with
  | nil => intro m us vs h k; cases (show us = [] from h); exact k
  | cons a l iha ihl =>
    rintro m us vs ⟨v, us', rfl, h1, h2⟩ k
    exact ⟨v, us' ++ vs, rfl, h1, ihl h2 k⟩
  | _ =>
    intro m us vs h k
    have hl := h.len
    simp only [AV.len] at hl
    match us, hl with
    | [u], _ => exact ⟨u, vs, rfl, h, k⟩

theorem Reps.splice {l m : AV} {us vs : List Value} (j : Nat) (h : Reps w own γ l ro us) (k : Reps w own γ m ro vs) : Reps w own γ (l.splice j m) ro (us.take j ++ vs ++ us.drop (j + vs.length)) := by
  rw [List.append_assoc, k.len]
  exact (h.take j).app (k.app (h.drop _))

theorem ptrAt_one (v : Value) (j : Nat) : (ptrAt v j).oneCell' = true := by
  unfold ptrAt
  split <;> rfl
theorem Reps.one {a : AV} {v : Value} (h : Reps w own γ a ro [v]) (h1 : a.one = true) (hg : ∀ L, a.has L → (γ L).oneCell' = true) : v.oneCell' = true := by
  cases a with
  | c u => cases h; exact h1
  | top => cases h1
  | nil => cases h1
  | cons x l => cases h1
  | agg l => cases h1
  | tup l => cases h1
  | fn f l => obtain ⟨us, e, _⟩ := h; cases e; rfl
  | op L j => obtain ⟨_, e, _⟩ := h; cases e; exact ptrAt_one _ _
  | oe L st k j => obtain ⟨_, e, _⟩ := h; cases e; exact ptrAt_one _ _
  | os L => obtain ⟨_, e⟩ := h; cases e; exact hg L rfl
  | om L => obtain ⟨_, e⟩ := h; cases e; exact hg L rfl
  | oi e k xs => exact h.elim
  | ow e n st cell => exact h.elim
  | e0 => obtain ⟨_, e⟩ := h; cases e; rfl
  | ri f q xs => obtain ⟨_, _, e, _⟩ := h; cases e; rfl
  | rs f n st cell => obtain ⟨_, _, e, _⟩ := h; cases e; rfl
  | rp f n st cell k j => obtain ⟨_, _, e, _⟩ := h; cases e; rfl
  | _ => cases h; rfl
theorem Reps.ones : ∀ {a : AV} {us : List Value}, Reps w own γ a ro us → a.ones = true → (∀ L, a.has L → (γ L).oneCell' = true) → ∀ u ∈ us, u.oneCell' = true := by
  intro a
  induction a with
  | nil => intro us h _ _ u hu; cases (show us = [] from h); cases hu
  | cons a l iha ihl =>
    rintro us ⟨v, vs, rfl, h1, h2⟩ ho hg u hu
    simp only [AV.ones, Bool.and_eq_true] at ho
    rcases List.mem_cons.1 hu with rfl | hu
    · exact h1.one ho.1 (fun L hL => hg L (.inl hL))
    · exact ihl h2 ho.2 (fun L hL => hg L (.inr hL)) u hu
  | _ =>
    intro us h ho hg u hu
    have hl := h.len
    simp only [AV.len] at hl
    match us, hl with
    | [v], _ =>
      cases List.mem_singleton.1 hu
      exact Reps.one h (by simpa [AV.ones] using ho) hg
/-- A value that a variable can hold. -/
def AV.flat : AV → Bool
  | .agg l => l.ones
  | a => a.one
theorem Reps.cells {a : AV} {v : Value} (h : Reps w own γ a ro [v]) (hf : a.flat = true) (hg : ∀ L, a.has L → (γ L).oneCell' = true) :
    Reps w own γ a.cells ro v.cells.toList ∧ ∀ u ∈ v.cells.toList, u.oneCell' = true := by
  by_cases ha : ∃ l, a = .agg l
  · obtain ⟨l, rfl⟩ := ha
    obtain ⟨us, e, h1⟩ := h
    cases e
    exact ⟨by simpa [AV.cells, Value.cells] using h1, by simpa [Value.cells] using h1.ones hf hg⟩
  · have hc : a.cells = a := by cases a <;> first | rfl | exact absurd ⟨_, rfl⟩ ha
    have h1 : a.one = true := by cases a <;> first | exact hf | exact absurd ⟨_, rfl⟩ ha
    have hv := h.one h1 hg
    have hvc : v.cells.toList = [v] := by cases v <;> first | rfl | cases hv
    rw [hc, hvc]
    exact ⟨h, fun u hu => by cases List.mem_singleton.1 hu; exact hv⟩
end
end Go.Proofs.Ytbncmiglhjfcdaa
