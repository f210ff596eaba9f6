/-
  Graphs that are drawn (the reference's l21Graph and DrawGraph).
-/
import Derived.Test.YtmnbpamaiboghaaSbGx
import Derived.Test.YtmnbpamaiboghaaSbDg
import Derived.Test.YtmnbpamaiboghaaSbFo
namespace Go.Proofs.Ytmnbpamaiboghaa
set_option linter.unusedVariables false
set_option linter.unusedSimpArgs false
set_option maxRecDepth 100000
set_option maxHeartbeats 4000000
attribute [local irreducible] Fn
/-- One pair of nodes: an edge, or none. -/
def dgs (acyc : Bool) (a b : Nat) (s : List Edg × Cur) : List Edg × Cur :=
  if a = b ∨ (acyc = true ∧ b < a) ∨ 20 ≤ s.1.length then s
  else if cBelow s.2 2 = 0 then (s.1 ++ [((a : Int), (b : Int), 1 + cBelow (cu1 s.2) 3, ())], cu1 (cu1 s.2)) else (s.1, cu1 s.2)
def dgB (acyc : Bool) (a : Nat) (s : List Edg × Cur) : Nat → List Edg × Cur
  | 0 => s
  | b + 1 => dgs acyc a b (dgB acyc a s b)
def dgA (acyc : Bool) (n : Nat) (s : List Edg × Cur) : Nat → List Edg × Cur
  | 0 => s
  | a + 1 => dgB acyc a (dgA acyc n s a) n
theorem dgs_ok {acyc : Bool} {a b : Nat} {s : List Edg × Cur} (h : CurOk s.2) (hl : s.1.length ≤ 20) : CurOk (dgs acyc a b s).2 ∧ (dgs acyc a b s).1.length ≤ 20 := by
  unfold dgs
  split
  · exact ⟨h, hl⟩
  · rename_i hn
    split
    · refine ⟨h.next.next, ?_⟩
      simp only [List.length_append, List.length_singleton]
      omega
    · exact ⟨h.next, hl⟩
theorem dgB_ok {acyc : Bool} {a : Nat} {s : List Edg × Cur} (h : CurOk s.2) (hl : s.1.length ≤ 20) : ∀ b, CurOk (dgB acyc a s b).2 ∧ (dgB acyc a s b).1.length ≤ 20
  | 0 => ⟨h, hl⟩
  | b + 1 => dgs_ok (dgB_ok h hl b).1 (dgB_ok h hl b).2
theorem dgA_ok {acyc : Bool} {n : Nat} {s : List Edg × Cur} (h : CurOk s.2) (hl : s.1.length ≤ 20) : ∀ a, CurOk (dgA acyc n s a).2 ∧ (dgA acyc n s a).1.length ≤ 20
  | 0 => ⟨h, hl⟩
  | a + 1 => dgB_ok (dgA_ok h hl a).1 (dgA_ok h hl a).2 n
def dgN (c : Cur) : Int := 2 + cBelow c 5
theorem dgN_bd (c : Cur) : 2 ≤ dgN c ∧ dgN c ≤ 6 := by
  have := cBelow_bd (c := c) (n := 5) (by omega)
  unfold dgN; omega
def dgG (acyc : Bool) (c : Cur) : List Edg × Cur := dgA acyc (dgN c).toNat ([], cu1 c) (dgN c).toNat
theorem dgG_ok {acyc : Bool} {c : Cur} (h : CurOk c) : CurOk (dgG acyc c).2 ∧ (dgG acyc c).1.length ≤ 20 := dgA_ok h.next (Nat.zero_le _) _
/-- The edges come in order. -/
structure DgI (n : Nat) (es : List Edg) (a b : Nat) : Prop where
  ok : ∀ i, i < es.length → EdgeOk ((n : Int) - 1) es i
  bd : ∀ i, i < es.length → (es.getD i default).1 < a ∨ (es.getD i default).1 = a ∧ (es.getD i default).2.1 < b
theorem snocE {es : List Edg} {x : Edg} {i : Nat} (h : i < es.length) : (es ++ [x]).getD i default = es.getD i default := by simp [List.getD_eq_getElem?_getD, List.getElem?_append_left h]
theorem DgI.step {n : Nat} {acyc : Bool} {a b : Nat} {s : List Edg × Cur} (h : DgI n s.1 a b) (ha : a < n) (hb : b < n) : DgI n (dgs acyc a b s).1 a (b + 1) := by
  have up : DgI n s.1 a (b + 1) := ⟨h.ok, fun i hi => by have := h.bd i hi; omega⟩
  unfold dgs
  split
  · exact up
  · rename_i hn
    split
    · refine ⟨fun i hi => ?_, fun i hi => ?_⟩
      · simp only [List.length_append, List.length_singleton] at hi
        by_cases e : i = s.1.length
        · subst e
          have e1 : (s.1 ++ [((a : Int), (b : Int), 1 + cBelow (cu1 s.2) 3, ())]).getD s.1.length default = ((a : Int), (b : Int), 1 + cBelow (cu1 s.2) 3, ()) := by simp [List.getD_eq_getElem?_getD]
          have d3 := cBelow_bd (c := cu1 s.2) (n := 3) (by omega)
          simp only [EdgeOk, e1]
          refine ⟨by omega, by omega, by omega, by omega, by omega, by omega, by omega, fun h0 => ?_⟩
          rw [snocE (by omega)]
          have := h.bd (s.1.length - 1) (by omega)
          unfold LessE
          simp only
          omega
        · have hi : i < s.1.length := by omega
          have := h.ok i hi
          simp only [EdgeOk] at this ⊢
          rw [snocE hi]
          refine ⟨this.1, this.2.1, this.2.2.1, this.2.2.2.1, this.2.2.2.2.1, this.2.2.2.2.2.1, this.2.2.2.2.2.2.1, fun h0 => ?_⟩
          rw [snocE (by omega)]
          exact this.2.2.2.2.2.2.2 h0
      · simp only [List.length_append, List.length_singleton] at hi
        by_cases e : i = s.1.length
        · subst e
          have e1 : (s.1 ++ [((a : Int), (b : Int), 1 + cBelow (cu1 s.2) 3, ())]).getD s.1.length default = ((a : Int), (b : Int), 1 + cBelow (cu1 s.2) 3, ()) := by simp [List.getD_eq_getElem?_getD]
          rw [e1]
          exact .inr ⟨rfl, by show (b : Int) < ((b + 1 : Nat) : Int); omega⟩
        · have hi : i < s.1.length := by omega
          rw [snocE hi]
          exact up.bd i hi
    · exact up
theorem DgI.row {n : Nat} {acyc : Bool} {a : Nat} {s : List Edg × Cur} (h : DgI n s.1 a 0) (ha : a < n) : ∀ b, b ≤ n → DgI n (dgB acyc a s b).1 a b
  | 0, _ => h
  | b + 1, hb => (DgI.row h ha b (by omega)).step ha (by omega)
theorem DgI.all {n : Nat} {acyc : Bool} {s : List Edg × Cur} (h : DgI n s.1 0 0) : ∀ a, a ≤ n → DgI n (dgA acyc n s a).1 a 0
  | 0, _ => h
  | a + 1, ha => by
    have := (DgI.all (acyc := acyc) (s := s) h a (by omega)).row (acyc := acyc) (by omega) n (Nat.le_refl _)
    exact ⟨this.ok, fun i hi => by have h1 := this.bd i hi; left; show ((dgB acyc a (dgA acyc n s a) n).1.getD i default).1 < (((a + 1 : Nat)) : Int); rcases h1 with h1 | h1 <;> omega⟩
theorem dgG_valid {acyc : Bool} {c : Cur} (h : CurOk c) : ValidG (dgN c, (dgG acyc c).1, ()) := by
  have hn := dgN_bd c
  have h1 := (DgI.all (n := (dgN c).toNat) (acyc := acyc) (s := ([], cu1 c)) ⟨fun i hi => by simp at hi, fun i hi => by simp at hi⟩ (dgN c).toNat (Nat.le_refl _)).ok
  have h2 := (dgG_ok (acyc := acyc) h).2
  have e : (((dgN c).toNat : Nat) : Int) = dgN c := by omega
  refine ⟨by show 1 ≤ dgN c; omega, by show dgN c ≤ 8; omega, h2, fun i hi => ?_⟩
  have := h1 i hi
  rw [e] at this
  exact this
/-- The graph that a code draws, and two nodes of it. -/
def dwC (code : List Int) : Cur := cu1 (cur0 code)
def dwB (code : List Int) : Bool := decide (cBelow (cur0 code) 2 = 0)
def dwG (code : List Int) : Gr := (dgN (dwC code), (dgG (dwB code) (dwC code)).1, ())
def dwK (code : List Int) : Cur := (dgG (dwB code) (dwC code)).2
def dwS (code : List Int) : Int := cBelow (dwK code) (dwG code).1
def dwT (code : List Int) : Int := cBelow (cu1 (dwK code)) (dwG code).1
theorem dwC_ok {code : List Int} (h : code.length ≤ 1048576) : CurOk (dwC code) := (cur0_ok h).next
theorem dwG_valid {code : List Int} (h : code.length ≤ 1048576) : ValidG (dwG code) := dgG_valid (dwC_ok h)
theorem dwK_ok {code : List Int} (h : code.length ≤ 1048576) : CurOk (dwK code) := (dgG_ok (dwC_ok h)).1
theorem dwG_size (code : List Int) : 2 ≤ (dwG code).1 ∧ (dwG code).1 ≤ 6 := dgN_bd _
theorem dwS_bd (code : List Int) : 0 ≤ dwS code ∧ dwS code < (dwG code).1 := cBelow_bd (by have := dwG_size code; omega)
theorem dwT_bd (code : List Int) : 0 ≤ dwT code ∧ dwT code < (dwG code).1 := cBelow_bd (by have := dwG_size code; omega)
theorem blt_no' (k : Nat) : Nat.blt k k = false := by
  cases hb : Nat.blt k k with
  | false => rfl
  | true => have := blt_pos hb; omega
theorem blt_of' {k i : Nat} (h : k < i) : Nat.blt k i = true := by rw [Nat.blt_eq]; exact h
theorem snoc_at {X : Type} [Inhabited X] {xs : List X} {x : X} {k : Nat} (h : k < xs.length) : (xs ++ [x]).getD k default = xs.getD k default := by simp [List.getD_eq_getElem?_getD, List.getElem?_append_left h]
theorem snoc_end {X : Type} [Inhabited X] {xs : List X} {x : X} : (xs ++ [x]).getD xs.length default = x := by simp [List.getD_eq_getElem?_getD]
attribute [local irreducible] cx cu1 cBelow
section
attribute [local irreducible] dgs dgB dgA
theorem dgB_zero {acyc : Bool} {a : Nat} {s : List Edg × Cur} : dgB acyc a s 0 = s := by with_unfolding_all rfl
theorem dgB_succ {acyc : Bool} {a b : Nat} {s : List Edg × Cur} : dgB acyc a s (b + 1) = dgs acyc a b (dgB acyc a s b) := by with_unfolding_all rfl
theorem dgA_zero {acyc : Bool} {n : Nat} {s : List Edg × Cur} : dgA acyc n s 0 = s := by with_unfolding_all rfl
theorem dgA_succ {acyc : Bool} {n a : Nat} {s : List Edg × Cur} : dgA acyc n s (a + 1) = dgB acyc a (dgA acyc n s a) n := by with_unfolding_all rfl
theorem dgs_no {acyc : Bool} {a b : Nat} {s : List Edg × Cur} (h : a = b ∨ (acyc = true ∧ b < a) ∨ 20 ≤ s.1.length) : dgs acyc a b s = s := by unfold dgs; rw [if_pos h]
theorem dgs_one {acyc : Bool} {a b : Nat} {s : List Edg × Cur} (h : ¬ (a = b ∨ (acyc = true ∧ b < a) ∨ 20 ≤ s.1.length)) (h0 : cBelow s.2 2 = 0) : dgs acyc a b s = (s.1 ++ [((a : Int), (b : Int), 1 + cBelow (cu1 s.2) 3, ())], cu1 (cu1 s.2)) := by unfold dgs; rw [if_neg h, if_pos h0]
theorem dgs_none {acyc : Bool} {a b : Nat} {s : List Edg × Cur} (h : ¬ (a = b ∨ (acyc = true ∧ b < a) ∨ 20 ≤ s.1.length)) (h0 : ¬ cBelow s.2 2 = 0) : dgs acyc a b s = (s.1, cu1 s.2) := by unfold dgs; rw [if_neg h, if_neg h0]
theorem sGraph_fn (c : Cur) (acyc : Bool) (h : CurOk c) : Fn Try.prog 103 false (.cons (.op (rt 0) 0) (.cons (.b acyc) .nil)) [(0, .box (curA c))] (.agg (.cons (.I (dgN c)) (.cons (.os (rt 16)) .nil)))
    [(0, .box (curA (dgG acyc c).2)), (16, .row 61 (.tab (dgG acyc c).1.length 3 (cellsA EdgA (dgG acyc c).1)))] := by
  have hn := dgN_bd c
  have h5 := cBelow_bd (c := c) (n := 5) (by omega)
  (refine Fn_of tysOk Try.func103 rfl rfl (by simp [AV.len, Try.f103]) ⟨?_⟩; conv => whnf)
  (repeat' first | ((with_reducible show ∃ _ : Bool, _); first | (refine ⟨_, [rt 0], _, _, _, _, sBelow_fn c 5 h (by omega) (by omega), rfl, ?_, ?_, Nx.mk ?_⟩; (focus (((repeat' ((try conv => whnf); (first | exact trivial | exact Eq.refl _ | exact Or.inl (Eq.refl _) | refine And.intro ?_ ?_ | exact fun _ _ _ _ => Eq.refl _ | refine cellJ (fun _ _ => ?_) | (refine cellB ?_; (conv => whnf); refine And.intro ?_ ?_) | exact Nat.le_of_ble_eq_true (Eq.refl true) | exact ⟨_, _, Eq.refl _, Eq.refl _⟩ | fail))) <;> (try conv => whnf)); done)); (focus (((repeat' ((try conv => whnf); (first | exact trivial | exact Eq.refl _ | exact Or.inl (Eq.refl _) | refine And.intro ?_ ?_ | exact fun _ _ _ _ => Eq.refl _ | refine cellJ (fun _ _ => ?_) | (refine cellB ?_; (conv => whnf); refine And.intro ?_ ?_) | exact Nat.le_of_ble_eq_true (Eq.refl true) | exact ⟨_, _, Eq.refl _, Eq.refl _⟩ | fail))) <;> (try conv => whnf)); done)); conv => whnf))  | (refine splitD (fun hs => Nx.mk ?_) (fun hs => Nx.mk ?_) <;> ((try simp only [Ct.len] at hs); revert hs; intro _; conv => whnf)) | (refine splitB (fun _ => Nx.mk ?_) (fun _ => Nx.mk ?_) <;> conv => whnf) | (refine idxNat (by (first | exact trivial | assumption | omega | (simp only [inK, lenR] at *; omega) | (simp; done) | fail)) (Nx.mk ?_); conv => whnf) | (refine idxPred (by omega) (by (first | exact trivial | assumption | omega | (simp only [inK, lenR] at *; omega) | (simp; done) | fail)) (Nx.mk ?_); conv => whnf) | (refine idxSucc (by (first | exact trivial | assumption | omega | (simp only [inK, lenR] at *; omega) | (simp; done) | fail)) (Nx.mk ?_); conv => whnf) | (refine idxTo (by omega) (by (first | exact trivial | assumption | omega | (simp only [inK, lenR] at *; omega) | (simp; done) | fail)) (Nx.mk ?_); conv => whnf) | (refine mkNat (by omega) (by omega) (Nx.mk ?_); conv => whnf) | (refine ar64 (by omega) (Nx.mk ?_); conv => whnf) | (refine ar_in (by (first | exact trivial | assumption | omega | (simp only [inK, lenR] at *; omega) | (simp; done) | fail)) (Nx.mk ?_); conv => whnf) | (refine nilQ (fun _ => Nx.mk ?_) (Nx.mk ?_) <;> conv => whnf) | (refine condN Try.underlying4 (Nx.mk ?_); conv => whnf) | (refine condN (by (first | exact trivial | assumption | omega | (simp only [inK, lenR] at *; omega) | (simp; done) | fail)) (Nx.mk ?_); conv => whnf) | (refine Nx.mk ?_; conv => whnf))
  have eN : 2 + cBelow c 5 = dgN c := rfl
  obtain ⟨n, en⟩ : ∃ n : Nat, dgN c = (n : Int) := ⟨(dgN c).toNat, by omega⟩
  have eS : dgG acyc c = dgA acyc n ([], cu1 c) n := by unfold dgG; rw [en]; rfl
  simp only [eN, en]
  refine loopI tysOk [nm 55] (fun i : Nat => [(6, .I i)]) (fun i => [(nm 5, some (.box (.cons (.I n) (.cons (.os (rt (nm 55))) .nil)))), (nm 55, some (.row 61 (.tab (dgA acyc n ([], cu1 c) i).1.length 3 (cellsA EdgA (dgA acyc n ([], cu1 c) i).1)))), (0, some (.box (curA (dgA acyc n ([], cu1 c) i).2)))]) (fun i => i ≤ n) (fun i => n - i) 0 (Nat.zero_le _) ?_ ?_
  · ((try conv => whnf); refine ⟨rfl, by rfl, ?_, ?_⟩ <;> ((repeat' ((try conv => whnf); (first | exact trivial | exact Eq.refl _ | exact Or.inl (Eq.refl _) | refine And.intro ?_ ?_ | exact fun _ _ _ _ => Eq.refl _ | refine cellJ (fun _ _ => ?_) | (refine cellB ?_; (conv => whnf); refine And.intro ?_ ?_) | exact Nat.le_of_ble_eq_true (Eq.refl true) | exact ⟨_, _, Eq.refl _, Eq.refl _⟩ | fail))) <;> (try conv => whnf)))
    all_goals simp only [dgA_zero]
    all_goals ((repeat' ((try conv => whnf); (first | exact trivial | exact Eq.refl _ | exact Or.inl (Eq.refl _) | refine And.intro ?_ ?_ | exact fun _ _ _ _ => Eq.refl _ | refine cellJ (fun _ _ => ?_) | (refine cellB ?_; (conv => whnf); refine And.intro ?_ ?_) | exact Nat.le_of_ble_eq_true (Eq.refl true) | exact ⟨_, _, Eq.refl _, Eq.refl _⟩ | fail))) <;> (try conv => whnf))
  intro a ha
  have hA := dgA_ok (acyc := acyc) (n := n) (s := ([], cu1 c)) h.next (Nat.zero_le _) a
  generalize eA : dgA acyc n ([], cu1 c) a = sa at hA
  by_cases hlt : a < n
  · (repeat' first | (refine splitD (fun hs => Nx.mk ?_) (fun hs => Nx.mk ?_) <;> ((try simp only [Ct.len] at hs); revert hs; intro _; conv => whnf)) | (refine splitB (fun _ => Nx.mk ?_) (fun _ => Nx.mk ?_) <;> conv => whnf) | (refine idxNat (by (first | exact trivial | assumption | omega | (simp only [inK, lenR] at *; omega) | (simp; done) | fail)) (Nx.mk ?_); conv => whnf) | (refine idxPred (by omega) (by (first | exact trivial | assumption | omega | (simp only [inK, lenR] at *; omega) | (simp; done) | fail)) (Nx.mk ?_); conv => whnf) | (refine idxSucc (by (first | exact trivial | assumption | omega | (simp only [inK, lenR] at *; omega) | (simp; done) | fail)) (Nx.mk ?_); conv => whnf) | (refine idxTo (by omega) (by (first | exact trivial | assumption | omega | (simp only [inK, lenR] at *; omega) | (simp; done) | fail)) (Nx.mk ?_); conv => whnf) | (refine mkNat (by omega) (by omega) (Nx.mk ?_); conv => whnf) | (refine ar64 (by omega) (Nx.mk ?_); conv => whnf) | (refine ar_in (by (first | exact trivial | assumption | omega | (simp only [inK, lenR] at *; omega) | (simp; done) | fail)) (Nx.mk ?_); conv => whnf) | (refine nilQ (fun _ => Nx.mk ?_) (Nx.mk ?_) <;> conv => whnf) | (refine condN Try.underlying4 (Nx.mk ?_); conv => whnf) | (refine condN (by (first | exact trivial | assumption | omega | (simp only [inK, lenR] at *; omega) | (simp; done) | fail)) (Nx.mk ?_); conv => whnf) | (refine Nx.mk ?_; conv => whnf))
    (all_goals try first | contradiction | (exfalso; omega))
    refine loopI tysOk [nm 55] (fun i : Nat => [(7, .I i)]) (fun i => [(nm 5, some (.box (.cons (.I n) (.cons (.os (rt (nm 55))) .nil)))), (nm 55, some (.row 61 (.tab (dgB acyc a sa i).1.length 3 (cellsA EdgA (dgB acyc a sa i).1)))), (0, some (.box (curA (dgB acyc a sa i).2)))]) (fun i => i ≤ n) (fun i => n - i) 0 (Nat.zero_le _) ?_ ?_
    · ((try conv => whnf); refine ⟨rfl, by rfl, ?_, ?_⟩ <;> ((repeat' ((try conv => whnf); (first | exact trivial | exact Eq.refl _ | exact Or.inl (Eq.refl _) | refine And.intro ?_ ?_ | exact fun _ _ _ _ => Eq.refl _ | refine cellJ (fun _ _ => ?_) | (refine cellB ?_; (conv => whnf); refine And.intro ?_ ?_) | exact Nat.le_of_ble_eq_true (Eq.refl true) | exact ⟨_, _, Eq.refl _, Eq.refl _⟩ | fail))) <;> (try conv => whnf)))
      all_goals simp only [dgB_zero]
      all_goals ((repeat' ((try conv => whnf); (first | exact trivial | exact Eq.refl _ | exact Or.inl (Eq.refl _) | refine And.intro ?_ ?_ | exact fun _ _ _ _ => Eq.refl _ | refine cellJ (fun _ _ => ?_) | (refine cellB ?_; (conv => whnf); refine And.intro ?_ ?_) | exact Nat.le_of_ble_eq_true (Eq.refl true) | exact ⟨_, _, Eq.refl _, Eq.refl _⟩ | fail))) <;> (try conv => whnf))
    intro b hb
    have hB := dgB_ok (acyc := acyc) (a := a) (s := sa) hA.1 hA.2 b
    generalize eB : dgB acyc a sa b = sb at hB
    have d2 := cBelow_bd (c := sb.2) (n := 2) (by omega)
    have d3 := cBelow_bd (c := cu1 sb.2) (n := 3) (by omega)
    have eB' : dgB acyc a sa (b + 1) = dgs acyc a b sb := by rw [dgB_succ, eB]
    by_cases hlb : b < n
    · by_cases hc : a = b ∨ (acyc = true ∧ b < a) ∨ 20 ≤ sb.1.length
      · have e1 := dgs_no hc
        rw [e1] at eB'
        (repeat' first | ((with_reducible show ∃ _ : Bool, _); first | (refine ⟨_, [rt 0], _, _, _, _, sOnce_fn sb.2 2 hB.1 (by omega) (by omega), rfl, ?_, ?_, Nx.mk ?_⟩; (focus (((repeat' ((try conv => whnf); (first | exact trivial | exact Eq.refl _ | exact Or.inl (Eq.refl _) | refine And.intro ?_ ?_ | exact fun _ _ _ _ => Eq.refl _ | refine cellJ (fun _ _ => ?_) | (refine cellB ?_; (conv => whnf); refine And.intro ?_ ?_) | exact Nat.le_of_ble_eq_true (Eq.refl true) | exact ⟨_, _, Eq.refl _, Eq.refl _⟩ | fail))) <;> (try conv => whnf)); done)); (focus (((repeat' ((try conv => whnf); (first | exact trivial | exact Eq.refl _ | exact Or.inl (Eq.refl _) | refine And.intro ?_ ?_ | exact fun _ _ _ _ => Eq.refl _ | refine cellJ (fun _ _ => ?_) | (refine cellB ?_; (conv => whnf); refine And.intro ?_ ?_) | exact Nat.le_of_ble_eq_true (Eq.refl true) | exact ⟨_, _, Eq.refl _, Eq.refl _⟩ | fail))) <;> (try conv => whnf)); done)); conv => whnf))  | (refine splitD (fun hs => Nx.mk ?_) (fun hs => Nx.mk ?_) <;> ((try simp only [Ct.len] at hs); revert hs; intro _; conv => whnf)) | (refine splitB (fun _ => Nx.mk ?_) (fun _ => Nx.mk ?_) <;> conv => whnf) | (refine idxNat (by (first | exact trivial | assumption | omega | (simp only [inK, lenR] at *; omega) | (simp; done) | fail)) (Nx.mk ?_); conv => whnf) | (refine idxPred (by omega) (by (first | exact trivial | assumption | omega | (simp only [inK, lenR] at *; omega) | (simp; done) | fail)) (Nx.mk ?_); conv => whnf) | (refine idxSucc (by (first | exact trivial | assumption | omega | (simp only [inK, lenR] at *; omega) | (simp; done) | fail)) (Nx.mk ?_); conv => whnf) | (refine idxTo (by omega) (by (first | exact trivial | assumption | omega | (simp only [inK, lenR] at *; omega) | (simp; done) | fail)) (Nx.mk ?_); conv => whnf) | (refine mkNat (by omega) (by omega) (Nx.mk ?_); conv => whnf) | (refine ar64 (by omega) (Nx.mk ?_); conv => whnf) | (refine ar_in (by (first | exact trivial | assumption | omega | (simp only [inK, lenR] at *; omega) | (simp; done) | fail)) (Nx.mk ?_); conv => whnf) | (refine nilQ (fun _ => Nx.mk ?_) (Nx.mk ?_) <;> conv => whnf) | (refine condN Try.underlying4 (Nx.mk ?_); conv => whnf) | (refine condN (by (first | exact trivial | assumption | omega | (simp only [inK, lenR] at *; omega) | (simp; done) | fail)) (Nx.mk ?_); conv => whnf) | (refine Nx.mk ?_; conv => whnf))
        (all_goals try first | contradiction | (exfalso; omega))
        all_goals try (exfalso; simp_all; omega)
        all_goals
          refine ⟨b + 1, by omega, by omega, ?_⟩
          ((try conv => whnf); refine ⟨rfl, by rfl, ?_, ?_⟩ <;> ((repeat' ((try conv => whnf); (first | exact trivial | exact Eq.refl _ | exact Or.inl (Eq.refl _) | refine And.intro ?_ ?_ | exact fun _ _ _ _ => Eq.refl _ | refine cellJ (fun _ _ => ?_) | (refine cellB ?_; (conv => whnf); refine And.intro ?_ ?_) | exact Nat.le_of_ble_eq_true (Eq.refl true) | exact ⟨_, _, Eq.refl _, Eq.refl _⟩ | fail))) <;> (try conv => whnf)))
          all_goals rw [eB']
          all_goals ((repeat' ((try conv => whnf); (first | exact trivial | exact Eq.refl _ | exact Or.inl (Eq.refl _) | refine And.intro ?_ ?_ | exact fun _ _ _ _ => Eq.refl _ | refine cellJ (fun _ _ => ?_) | (refine cellB ?_; (conv => whnf); refine And.intro ?_ ?_) | exact Nat.le_of_ble_eq_true (Eq.refl true) | exact ⟨_, _, Eq.refl _, Eq.refl _⟩ | fail))) <;> (try conv => whnf))
      · by_cases h0 : cBelow sb.2 2 = 0
        · have e1 := dgs_one hc h0
          have c1 := (sOnce_fn sb.2 2 hB.1 (by omega) (by omega)).res (r' := .b true) (by rw [decide_eq_true h0])
          rw [e1] at eB'
          (repeat' first | ((with_reducible show ∃ _ : Bool, _); first | (refine ⟨_, [rt 0], _, _, _, _, c1, rfl, ?_, ?_, Nx.mk ?_⟩; (focus (((repeat' ((try conv => whnf); (first | exact trivial | exact Eq.refl _ | exact Or.inl (Eq.refl _) | refine And.intro ?_ ?_ | exact fun _ _ _ _ => Eq.refl _ | refine cellJ (fun _ _ => ?_) | (refine cellB ?_; (conv => whnf); refine And.intro ?_ ?_) | exact Nat.le_of_ble_eq_true (Eq.refl true) | exact ⟨_, _, Eq.refl _, Eq.refl _⟩ | fail))) <;> (try conv => whnf)); done)); (focus (((repeat' ((try conv => whnf); (first | exact trivial | exact Eq.refl _ | exact Or.inl (Eq.refl _) | refine And.intro ?_ ?_ | exact fun _ _ _ _ => Eq.refl _ | refine cellJ (fun _ _ => ?_) | (refine cellB ?_; (conv => whnf); refine And.intro ?_ ?_) | exact Nat.le_of_ble_eq_true (Eq.refl true) | exact ⟨_, _, Eq.refl _, Eq.refl _⟩ | fail))) <;> (try conv => whnf)); done)); conv => whnf) | (refine ⟨_, [rt 0], _, _, _, _, sBelow_fn (cu1 sb.2) 3 hB.1.next (by omega) (by omega), rfl, ?_, ?_, Nx.mk ?_⟩; (focus (((repeat' ((try conv => whnf); (first | exact trivial | exact Eq.refl _ | exact Or.inl (Eq.refl _) | refine And.intro ?_ ?_ | exact fun _ _ _ _ => Eq.refl _ | refine cellJ (fun _ _ => ?_) | (refine cellB ?_; (conv => whnf); refine And.intro ?_ ?_) | exact Nat.le_of_ble_eq_true (Eq.refl true) | exact ⟨_, _, Eq.refl _, Eq.refl _⟩ | fail))) <;> (try conv => whnf)); done)); (focus (((repeat' ((try conv => whnf); (first | exact trivial | exact Eq.refl _ | exact Or.inl (Eq.refl _) | refine And.intro ?_ ?_ | exact fun _ _ _ _ => Eq.refl _ | refine cellJ (fun _ _ => ?_) | (refine cellB ?_; (conv => whnf); refine And.intro ?_ ?_) | exact Nat.le_of_ble_eq_true (Eq.refl true) | exact ⟨_, _, Eq.refl _, Eq.refl _⟩ | fail))) <;> (try conv => whnf)); done)); conv => whnf)) | (((with_reducible show VC _ (.region _ _ true) _ _); refine VC_tree (sf := [105]) tysOk (by kernel_rfl) (.nd 5 0 (.nd 5 1 (.lf [2, 3, 4, 0, 1, 5, 6, 7, 8, 9, 10, 11]) (.lf [2, 3, 4, 0, 5, 1, 6, 7, 8, 9, 10, 11])) (.lf [2, 3, 4, 5, 0, 1, 6, 7, 8, 9, 10, 11])) (by kernel_rfl) ?_; with_unfolding_all refine (And.intro (Nx.mk ?_) (And.intro (Nx.mk ?_) (And.intro (Nx.mk ?_) True.intro))) <;> conv => whnf)) | (refine splitD (fun hs => Nx.mk ?_) (fun hs => Nx.mk ?_) <;> ((try simp only [Ct.len] at hs); revert hs; intro _; conv => whnf)) | (refine splitB (fun _ => Nx.mk ?_) (fun _ => Nx.mk ?_) <;> conv => whnf) | (refine idxNat (by (first | exact trivial | assumption | omega | (simp only [inK, lenR] at *; omega) | (simp; done) | fail)) (Nx.mk ?_); conv => whnf) | (refine idxPred (by omega) (by (first | exact trivial | assumption | omega | (simp only [inK, lenR] at *; omega) | (simp; done) | fail)) (Nx.mk ?_); conv => whnf) | (refine idxSucc (by (first | exact trivial | assumption | omega | (simp only [inK, lenR] at *; omega) | (simp; done) | fail)) (Nx.mk ?_); conv => whnf) | (refine idxTo (by omega) (by (first | exact trivial | assumption | omega | (simp only [inK, lenR] at *; omega) | (simp; done) | fail)) (Nx.mk ?_); conv => whnf) | (refine mkNat (by omega) (by omega) (Nx.mk ?_); conv => whnf) | (refine ar64 (by omega) (Nx.mk ?_); conv => whnf) | (refine ar_in (by (first | exact trivial | assumption | omega | (simp only [inK, lenR] at *; omega) | (simp; done) | fail)) (Nx.mk ?_); conv => whnf) | (refine nilQ (fun _ => Nx.mk ?_) (Nx.mk ?_) <;> conv => whnf) | (refine condN Try.underlying4 (Nx.mk ?_); conv => whnf) | (refine condN (by (first | exact trivial | assumption | omega | (simp only [inK, lenR] at *; omega) | (simp; done) | fail)) (Nx.mk ?_); conv => whnf) | (refine Nx.mk ?_; conv => whnf))
          (all_goals try first | contradiction | (exfalso; omega))
          all_goals try (exfalso; simp_all; omega)
          all_goals
            refine ⟨b + 1, by omega, by omega, ?_⟩
            ((try conv => whnf); refine ⟨rfl, by rfl, ?_, ?_⟩ <;> ((repeat' ((try conv => whnf); (first | exact trivial | exact Eq.refl _ | exact Or.inl (Eq.refl _) | refine And.intro ?_ ?_ | exact fun _ _ _ _ => Eq.refl _ | refine cellJ (fun _ _ => ?_) | (refine cellB ?_; (conv => whnf); refine And.intro ?_ ?_) | exact Nat.le_of_ble_eq_true (Eq.refl true) | exact ⟨_, _, Eq.refl _, Eq.refl _⟩ | fail))) <;> (try conv => whnf)))
          all_goals rw [eB']
          all_goals first
            | (focus (rename_i k hk; by_cases e : k < sb.1.length; (simp only [blt_of' e, cond_true, cellsA, snoc_at e]; ((repeat' ((try conv => whnf); (first | exact trivial | exact Eq.refl _ | exact Or.inl (Eq.refl _) | refine And.intro ?_ ?_ | exact fun _ _ _ _ => Eq.refl _ | refine cellJ (fun _ _ => ?_) | (refine cellB ?_; (conv => whnf); refine And.intro ?_ ?_) | exact Nat.le_of_ble_eq_true (Eq.refl true) | exact ⟨_, _, Eq.refl _, Eq.refl _⟩ | fail))) <;> (try conv => whnf))); (obtain rfl : k = sb.1.length := by omega); simp only [blt_no', cond_false, cellsA, snoc_end, Nat.sub_self]; ((repeat' ((try conv => whnf); (first | exact trivial | exact Eq.refl _ | exact Or.inl (Eq.refl _) | refine And.intro ?_ ?_ | exact fun _ _ _ _ => Eq.refl _ | refine cellJ (fun _ _ => ?_) | (refine cellB ?_; (conv => whnf); refine And.intro ?_ ?_) | exact Nat.le_of_ble_eq_true (Eq.refl true) | exact ⟨_, _, Eq.refl _, Eq.refl _⟩ | fail))) <;> (try conv => whnf)); done))
            | (simp; done)
            | (focus (((repeat' ((try conv => whnf); (first | exact trivial | exact Eq.refl _ | exact Or.inl (Eq.refl _) | refine And.intro ?_ ?_ | exact fun _ _ _ _ => Eq.refl _ | refine cellJ (fun _ _ => ?_) | (refine cellB ?_; (conv => whnf); refine And.intro ?_ ?_) | exact Nat.le_of_ble_eq_true (Eq.refl true) | exact ⟨_, _, Eq.refl _, Eq.refl _⟩ | fail))) <;> (try conv => whnf)); done))
        · have e1 := dgs_none hc h0
          have c1 := (sOnce_fn sb.2 2 hB.1 (by omega) (by omega)).res (r' := .b false) (by rw [decide_eq_false h0])
          rw [e1] at eB'
          (repeat' first | ((with_reducible show ∃ _ : Bool, _); first | (refine ⟨_, [rt 0], _, _, _, _, c1, rfl, ?_, ?_, Nx.mk ?_⟩; (focus (((repeat' ((try conv => whnf); (first | exact trivial | exact Eq.refl _ | exact Or.inl (Eq.refl _) | refine And.intro ?_ ?_ | exact fun _ _ _ _ => Eq.refl _ | refine cellJ (fun _ _ => ?_) | (refine cellB ?_; (conv => whnf); refine And.intro ?_ ?_) | exact Nat.le_of_ble_eq_true (Eq.refl true) | exact ⟨_, _, Eq.refl _, Eq.refl _⟩ | fail))) <;> (try conv => whnf)); done)); (focus (((repeat' ((try conv => whnf); (first | exact trivial | exact Eq.refl _ | exact Or.inl (Eq.refl _) | refine And.intro ?_ ?_ | exact fun _ _ _ _ => Eq.refl _ | refine cellJ (fun _ _ => ?_) | (refine cellB ?_; (conv => whnf); refine And.intro ?_ ?_) | exact Nat.le_of_ble_eq_true (Eq.refl true) | exact ⟨_, _, Eq.refl _, Eq.refl _⟩ | fail))) <;> (try conv => whnf)); done)); conv => whnf))  | (refine splitD (fun hs => Nx.mk ?_) (fun hs => Nx.mk ?_) <;> ((try simp only [Ct.len] at hs); revert hs; intro _; conv => whnf)) | (refine splitB (fun _ => Nx.mk ?_) (fun _ => Nx.mk ?_) <;> conv => whnf) | (refine idxNat (by (first | exact trivial | assumption | omega | (simp only [inK, lenR] at *; omega) | (simp; done) | fail)) (Nx.mk ?_); conv => whnf) | (refine idxPred (by omega) (by (first | exact trivial | assumption | omega | (simp only [inK, lenR] at *; omega) | (simp; done) | fail)) (Nx.mk ?_); conv => whnf) | (refine idxSucc (by (first | exact trivial | assumption | omega | (simp only [inK, lenR] at *; omega) | (simp; done) | fail)) (Nx.mk ?_); conv => whnf) | (refine idxTo (by omega) (by (first | exact trivial | assumption | omega | (simp only [inK, lenR] at *; omega) | (simp; done) | fail)) (Nx.mk ?_); conv => whnf) | (refine mkNat (by omega) (by omega) (Nx.mk ?_); conv => whnf) | (refine ar64 (by omega) (Nx.mk ?_); conv => whnf) | (refine ar_in (by (first | exact trivial | assumption | omega | (simp only [inK, lenR] at *; omega) | (simp; done) | fail)) (Nx.mk ?_); conv => whnf) | (refine nilQ (fun _ => Nx.mk ?_) (Nx.mk ?_) <;> conv => whnf) | (refine condN Try.underlying4 (Nx.mk ?_); conv => whnf) | (refine condN (by (first | exact trivial | assumption | omega | (simp only [inK, lenR] at *; omega) | (simp; done) | fail)) (Nx.mk ?_); conv => whnf) | (refine Nx.mk ?_; conv => whnf))
          (all_goals try first | contradiction | (exfalso; omega))
          all_goals try (exfalso; simp_all; omega)
          all_goals
            refine ⟨b + 1, by omega, by omega, ?_⟩
            ((try conv => whnf); refine ⟨rfl, by rfl, ?_, ?_⟩ <;> ((repeat' ((try conv => whnf); (first | exact trivial | exact Eq.refl _ | exact Or.inl (Eq.refl _) | refine And.intro ?_ ?_ | exact fun _ _ _ _ => Eq.refl _ | refine cellJ (fun _ _ => ?_) | (refine cellB ?_; (conv => whnf); refine And.intro ?_ ?_) | exact Nat.le_of_ble_eq_true (Eq.refl true) | exact ⟨_, _, Eq.refl _, Eq.refl _⟩ | fail))) <;> (try conv => whnf)))
            all_goals rw [eB']
            all_goals ((repeat' ((try conv => whnf); (first | exact trivial | exact Eq.refl _ | exact Or.inl (Eq.refl _) | refine And.intro ?_ ?_ | exact fun _ _ _ _ => Eq.refl _ | refine cellJ (fun _ _ => ?_) | (refine cellB ?_; (conv => whnf); refine And.intro ?_ ?_) | exact Nat.le_of_ble_eq_true (Eq.refl true) | exact ⟨_, _, Eq.refl _, Eq.refl _⟩ | fail))) <;> (try conv => whnf))
    · (repeat' first | (refine splitD (fun hs => Nx.mk ?_) (fun hs => Nx.mk ?_) <;> ((try simp only [Ct.len] at hs); revert hs; intro _; conv => whnf)) | (refine splitB (fun _ => Nx.mk ?_) (fun _ => Nx.mk ?_) <;> conv => whnf) | (refine idxNat (by (first | exact trivial | assumption | omega | (simp only [inK, lenR] at *; omega) | (simp; done) | fail)) (Nx.mk ?_); conv => whnf) | (refine idxPred (by omega) (by (first | exact trivial | assumption | omega | (simp only [inK, lenR] at *; omega) | (simp; done) | fail)) (Nx.mk ?_); conv => whnf) | (refine idxSucc (by (first | exact trivial | assumption | omega | (simp only [inK, lenR] at *; omega) | (simp; done) | fail)) (Nx.mk ?_); conv => whnf) | (refine idxTo (by omega) (by (first | exact trivial | assumption | omega | (simp only [inK, lenR] at *; omega) | (simp; done) | fail)) (Nx.mk ?_); conv => whnf) | (refine mkNat (by omega) (by omega) (Nx.mk ?_); conv => whnf) | (refine ar64 (by omega) (Nx.mk ?_); conv => whnf) | (refine ar_in (by (first | exact trivial | assumption | omega | (simp only [inK, lenR] at *; omega) | (simp; done) | fail)) (Nx.mk ?_); conv => whnf) | (refine nilQ (fun _ => Nx.mk ?_) (Nx.mk ?_) <;> conv => whnf) | (refine condN Try.underlying4 (Nx.mk ?_); conv => whnf) | (refine condN (by (first | exact trivial | assumption | omega | (simp only [inK, lenR] at *; omega) | (simp; done) | fail)) (Nx.mk ?_); conv => whnf) | (refine Nx.mk ?_; conv => whnf))
      (all_goals try first | contradiction | (exfalso; omega))
      obtain rfl : b = n := by omega
      refine ⟨a + 1, by omega, by omega, ?_⟩
      ((try conv => whnf); refine ⟨rfl, by rfl, ?_, ?_⟩ <;> ((repeat' ((try conv => whnf); (first | exact trivial | exact Eq.refl _ | exact Or.inl (Eq.refl _) | refine And.intro ?_ ?_ | exact fun _ _ _ _ => Eq.refl _ | refine cellJ (fun _ _ => ?_) | (refine cellB ?_; (conv => whnf); refine And.intro ?_ ?_) | exact Nat.le_of_ble_eq_true (Eq.refl true) | exact ⟨_, _, Eq.refl _, Eq.refl _⟩ | fail))) <;> (try conv => whnf)))
      all_goals rw [dgA_succ, eA, eB]
      all_goals ((repeat' ((try conv => whnf); (first | exact trivial | exact Eq.refl _ | exact Or.inl (Eq.refl _) | refine And.intro ?_ ?_ | exact fun _ _ _ _ => Eq.refl _ | refine cellJ (fun _ _ => ?_) | (refine cellB ?_; (conv => whnf); refine And.intro ?_ ?_) | exact Nat.le_of_ble_eq_true (Eq.refl true) | exact ⟨_, _, Eq.refl _, Eq.refl _⟩ | fail))) <;> (try conv => whnf))
  · (repeat' first | (refine splitD (fun hs => Nx.mk ?_) (fun hs => Nx.mk ?_) <;> ((try simp only [Ct.len] at hs); revert hs; intro _; conv => whnf)) | (refine splitB (fun _ => Nx.mk ?_) (fun _ => Nx.mk ?_) <;> conv => whnf) | (refine idxNat (by (first | exact trivial | assumption | omega | (simp only [inK, lenR] at *; omega) | (simp; done) | fail)) (Nx.mk ?_); conv => whnf) | (refine idxPred (by omega) (by (first | exact trivial | assumption | omega | (simp only [inK, lenR] at *; omega) | (simp; done) | fail)) (Nx.mk ?_); conv => whnf) | (refine idxSucc (by (first | exact trivial | assumption | omega | (simp only [inK, lenR] at *; omega) | (simp; done) | fail)) (Nx.mk ?_); conv => whnf) | (refine idxTo (by omega) (by (first | exact trivial | assumption | omega | (simp only [inK, lenR] at *; omega) | (simp; done) | fail)) (Nx.mk ?_); conv => whnf) | (refine mkNat (by omega) (by omega) (Nx.mk ?_); conv => whnf) | (refine ar64 (by omega) (Nx.mk ?_); conv => whnf) | (refine ar_in (by (first | exact trivial | assumption | omega | (simp only [inK, lenR] at *; omega) | (simp; done) | fail)) (Nx.mk ?_); conv => whnf) | (refine nilQ (fun _ => Nx.mk ?_) (Nx.mk ?_) <;> conv => whnf) | (refine condN Try.underlying4 (Nx.mk ?_); conv => whnf) | (refine condN (by (first | exact trivial | assumption | omega | (simp only [inK, lenR] at *; omega) | (simp; done) | fail)) (Nx.mk ?_); conv => whnf) | (refine Nx.mk ?_; conv => whnf))
    (all_goals try first | contradiction | (exfalso; omega))
    obtain rfl : a = n := by omega
    rw [eS, eA]
    refine ⟨[(16, nm 55)], rfl, ?_, ?_, ?_, fun hh => by cases hh⟩
    · ((try conv => whnf); refine ⟨rfl, by rfl, ?_, ?_⟩ <;> ((repeat' ((try conv => whnf); (first | exact trivial | exact Eq.refl _ | exact Or.inl (Eq.refl _) | refine And.intro ?_ ?_ | exact fun _ _ _ _ => Eq.refl _ | refine cellJ (fun _ _ => ?_) | (refine cellB ?_; (conv => whnf); refine And.intro ?_ ?_) | exact Nat.le_of_ble_eq_true (Eq.refl true) | exact ⟨_, _, Eq.refl _, Eq.refl _⟩ | fail))) <;> (try conv => whnf)))
    all_goals ((repeat' ((try conv => whnf); (first | exact trivial | exact Eq.refl _ | exact Or.inl (Eq.refl _) | refine And.intro ?_ ?_ | exact fun _ _ _ _ => Eq.refl _ | refine cellJ (fun _ _ => ?_) | (refine cellB ?_; (conv => whnf); refine And.intro ?_ ?_) | exact Nat.le_of_ble_eq_true (Eq.refl true) | exact ⟨_, _, Eq.refl _, Eq.refl _⟩ | fail))) <;> (try conv => whnf))
end
end Go.Proofs.Ytmnbpamaiboghaa
