/-
  slices.Insert at [][]int: its contract.
-/
import Derived.Test.YtbepgedckfhifaaGreatFiKa
import Derived.Test.YtbepgedckfhifaaGreatFiGa
namespace Go.Proofs.YtbepgedckfhifaaGreat
open Go.Shelf Go.RowKit
set_option linter.unusedVariables false
set_option linter.unusedSimpArgs false
set_option maxRecDepth 100000
set_option maxHeartbeats 4000000
attribute [local irreducible] Fn
theorem setCell_heap {b k : Nat} {ty : TypeId} {us : List Value} {w : World} {v : Value} (h : w.heap[b]? = some (.cells us.toArray ty (0, 0))) :
    (w.setCell ⟨b, k, none⟩ v).heap[b]? = some (.cells (us.set k v).toArray ty (0, 0)) := by
  simp only [World.setCell, Array.getElem?_modify, h, if_true]
  simp
theorem setCell_other {b k j : Nat} {w : World} {v : Value} (h : j ≠ b) : (w.setCell ⟨b, k, none⟩ v).heap[j]? = w.heap[j]? := by
  simp only [World.setCell, Array.getElem?_modify]
  rw [if_neg (fun e => h e.symm)]
theorem setCells_heap {b : Nat} {ty : TypeId} : ∀ (vs : List Value) (o : Nat) (w : World) (us : List Value), w.heap[b]? = some (.cells us.toArray ty (0, 0)) → o + vs.length ≤ us.length →
    (∃ us', (w.setCells b o vs).heap[b]? = some (.cells (List.toArray us') ty (0, 0)) ∧ us'.length = us.length ∧ ∀ j, us'[j]? = if o ≤ j ∧ j < o + vs.length then vs[j - o]? else us[j]?) ∧
    (w.setCells b o vs).heap.size = w.heap.size ∧ (∀ k, k ≠ b → (w.setCells b o vs).heap[k]? = w.heap[k]?) := by
  intro vs
  induction vs with
  | nil =>
    intro o w us h _
    refine ⟨⟨us, h, rfl, fun j => ?_⟩, rfl, fun _ _ => rfl⟩
    rw [if_neg (by show ¬ (o ≤ j ∧ j < o + 0); omega)]
  | cons v r ih =>
    intro o w us h hl
    have hl : o + (r.length + 1) ≤ us.length := hl
    obtain ⟨⟨us', e1, e2, e3⟩, e4, e5⟩ := ih (o + 1) (w.setCell ⟨b, o, none⟩ v) (us.set o v) (setCell_heap h) (by rw [List.length_set]; omega)
    refine ⟨⟨us', e1, by rw [e2, List.length_set], fun j => ?_⟩, ?_, fun k hk => (e5 k hk).trans (setCell_other hk)⟩
    · rw [e3, List.length_cons]
      by_cases hj : o + 1 ≤ j ∧ j < o + 1 + r.length
      · rw [if_pos hj, if_pos (by omega), show j - o = (j - (o + 1)) + 1 by omega]; rfl
      · rw [if_neg hj, List.getElem?_set]
        by_cases ej : o = j
        · subst ej
          rw [if_pos rfl, if_pos (by omega), if_pos (by omega), Nat.sub_self]; rfl
        · rw [if_neg ej, if_neg (by omega)]
    · show ((w.setCell ⟨b, o, none⟩ v).setCells b (o + 1) r).heap.size = _
      rw [e4]
      simp [World.setCell]
def insSrc (i : Nat) : List (Nat × Nat) → Nm
  | [] => rt 0
  | (j, q) :: p => if j < i then ⟨0, (j, q) :: p⟩ else if j = i then rt 2 else ⟨0, (j - 1, q) :: p⟩
def insG (g : Nm → Value) (i : Nat) (r : Value) (N : Nm) : Value := match N.p with | [] => r | p => g (insSrc i p)
def insT (rows : List (List Int)) (i : Nat) (v : List Int) : List (List Int) := rows.take i ++ v :: rows.drop i
theorem insT_len {rows : List (List Int)} {i : Nat} {v : List Int} (h : i ≤ rows.length) : (insT rows i v).length = rows.length + 1 := by
  unfold insT; rw [List.length_append, List.length_take, List.length_cons, List.length_drop]; omega
theorem insT_at {rows : List (List Int)} {i j : Nat} {v : List Int} (h : i ≤ rows.length) : (insT rows i v).getD j default = if j < i then rows.getD j default else if j = i then v else rows.getD (j - 1) default := by
  unfold insT
  simp only [List.getD_eq_getElem?_getD, List.getElem?_append, List.length_take, Nat.min_eq_left h]
  split
  · rename_i hj; rw [List.getElem?_take, if_pos hj]
  · rename_i hj
    by_cases e : j = i
    · subst e; simp
    · rw [if_neg e, show j - i = (j - i - 1) + 1 by omega, List.getElem?_cons_succ, List.getElem?_drop, show i + (j - i - 1) = j - 1 by omega]
theorem at_rows {lk : Nat → Option Blk} {e : TypeId} {rows : List (List Int)} {L : Nat} {N : Nm} {z : Blk} (hL : lk L = some (.row e (.tab rows.length 1 (cellsA ints_O_i64 rows)))) (hN : N.r = L) (h : AtL lk N z) :
    (N = rt L ∧ z = .row e (.tab rows.length 1 (cellsA ints_O_i64 rows))) ∨ ∃ j, j < rows.length ∧ N = ⟨L, [(j, 0)]⟩ ∧ z = .row 3 (.ints .i64 (rows.getD j default)) := by
  obtain ⟨r, p⟩ := N
  subst hN
  obtain ⟨x, h1, h2⟩ := h
  have h1 : lk r = some x := h1
  rw [hL] at h1
  cases h1
  match p, h2 with
  | [], h2 => exact .inl ⟨rfl, h2⟩
  | (i, j) :: p, h2 =>
    obtain ⟨e', c, y, e1, hi, hj, hs, h3⟩ := h2
    cases e1
    have hj : j < 1 := hj
    obtain rfl : j = 0 := by omega
    cases hs
    match p, h3 with
    | [], h3 => exact .inr ⟨i, hi, rfl, h3⟩
    | (i', j') :: p, h3 =>
      obtain ⟨e', c, y, e1, hi', hj', hs, h3⟩ := h3
      cases e1
      cases hs
theorem at_row_kid {lk : Nat → Option Blk} {e : TypeId} {rows : List (List Int)} {L j : Nat} (hL : lk L = some (.row e (.tab rows.length 1 (cellsA ints_O_i64 rows)))) (hj : j < rows.length) : AtL lk ⟨L, [(j, 0)]⟩ (.row 3 (.ints .i64 (rows.getD j default))) :=
  ⟨_, hL, _, _, _, rfl, hj, Nat.zero_lt_one, rfl, rfl⟩
theorem lkx_one {L M : Nat} {x y : Blk} (h : lkx [(L, x)] M = some y) : M = L ∧ y = x := by
  simp only [lkx] at h
  cases hb : Nat.beq L M with
  | false => rw [hb] at h; cases h
  | true => rw [hb] at h; cases h; exact ⟨(Nat.eq_of_beq_eq_true hb).symm, rfl⟩
abbrev insS (e : TypeId) (rows : List (List Int)) (v : List Int) : List (Nat × Blk) := [(0, .row e (.tab rows.length 1 (cellsA ints_O_i64 rows))), (1, .row e (.tab 1 1 fun _ _ => .os (rt 2))), (2, .row 3 (.ints .i64 v))]
theorem insSrc_eq {i j q : Nat} : insSrc i [(j, q)] = if j < i then ⟨0, [(j, q)]⟩ else if j = i then rt 2 else ⟨0, [(j - 1, q)]⟩ := rfl
theorem insSrc_at {e : TypeId} {rows : List (List Int)} {v : List Int} {i j : Nat} (hi : i ≤ rows.length) (hj : j < rows.length + 1) : AtL (lkx (insS e rows v)) (insSrc i [(j, 0)]) (.row 3 (.ints .i64 ((insT rows i v).getD j default))) := by
  rw [insT_at hi, insSrc_eq]
  split
  · exact at_row_kid (lk := lkx (insS e rows v)) (rows := rows) (L := 0) rfl (by omega)
  · split
    · exact ⟨_, rfl, rfl⟩
    · exact at_row_kid (lk := lkx (insS e rows v)) (rows := rows) (L := 0) rfl (by omega)
theorem insSrc_inj {i j k : Nat} (h : insSrc i [(j, 0)] = insSrc i [(k, 0)]) : j = k := by
  rw [insSrc_eq, insSrc_eq] at h
  split at h <;> split at h <;> (try split at h) <;> (try split at h) <;> simp only [rt, Nm.mk.injEq, List.cons.injEq, Prod.mk.injEq] at h <;> omega
theorem insSrc_ne {i j : Nat} : insSrc i [(j, 0)] ≠ rt 0 := by
  rw [insSrc_eq]
  split
  · simp [rt]
  · split <;> simp [rt]
theorem ins_post {E : Ent0} {e : TypeId} {rows : List (List Int)} {v : List Int} {i bk o cap : Nat} {us : List Value} {w' : World} {r : Value} (hi : i ≤ rows.length) (hP : Pre E (insS e rows v))
    (hr : r = .slice (some ⟨bk, o, none⟩) (rows.length + 1) cap) (hcap : rows.length + 1 ≤ cap) (hh : w'.heap[bk]? = some (.cells (List.toArray us) e (0, 0))) (hroom : o + cap ≤ us.length)
    (hu : ∀ j, j < rows.length + 1 → us[o + j]? = some (E.g (insSrc i [(j, 0)]))) (hsz : E.w.heap.size ≤ w'.heap.size)
    (hoth : ∀ k, k < E.w.heap.size → k ≠ bk → w'.heap[k]? = E.w.heap[k]?) (hbk : E.w.heap.size ≤ bk ∨ blkOf (E.g (rt 0)) = some bk) :
    Post E true w' [(16, .row e (.tab (insT rows i v).length 1 (cellsA ints_O_i64 (insT rows i v))))] (insG E.g i r) := by
  have hn := insT_len (v := v) hi
  have hA : AtL (lkx (insS e rows v)) (rt 0) (.row e (.tab rows.length 1 (cellsA ints_O_i64 rows))) := ⟨_, rfl, rfl⟩
  have hne : ∀ j b, j < rows.length + 1 → blkOf (E.g (insSrc i [(j, 0)])) = some b → b ≠ bk := fun j b hj hb e1 => by
    subst e1
    rcases hbk with h | h
    · have := hP.mine _ _ _ (insSrc_at hi hj) hb; omega
    · exact insSrc_ne (hP.inj _ _ _ _ _ (insSrc_at hi hj) hA hb h)
  have hone : ∀ j, j < rows.length + 1 → (E.g (insSrc i [(j, 0)])).oneCell' = true := fun j hj => by
    rcases hP.blks _ _ (insSrc_at hi hj) with ⟨_, A, h⟩ | ⟨_, _, _, _, h, _⟩ <;> rw [h] <;> rfl
  have hlk : ∀ N x, AtL (lkx [(16, Blk.row e (.tab (insT rows i v).length 1 (cellsA ints_O_i64 (insT rows i v))))]) N x → (N = rt 16 ∧ x = .row e (.tab (insT rows i v).length 1 (cellsA ints_O_i64 (insT rows i v)))) ∨ ∃ j, j < rows.length + 1 ∧ N = ⟨16, [(j, 0)]⟩ ∧ x = .row 3 (.ints .i64 ((insT rows i v).getD j default)) := fun N x h => by
    obtain ⟨y, h1, h2⟩ := h
    have := (lkx_one h1).1
    rcases at_rows (L := 16) rfl this ⟨y, h1, h2⟩ with h | ⟨j, hj, h⟩
    · exact .inl h
    · exact .inr ⟨j, by omega, h⟩
  refine ⟨fun N x h => ?_, fun N x b h hb => ?_, fun N M x y b h k hb kb => ?_, fun M x N h hN => ?_, fun L x hL h => ?_⟩
  · rcases hlk N x h with ⟨rfl, rfl⟩ | ⟨j, hj, rfl, rfl⟩
    · refine ⟨.inr ⟨bk, o, cap, us, ?_, by omega, ?_, hh, ?_, fun k j hk hj => ?_⟩, fun _ k j _ hj => by
        have hj : j < 1 := hj
        obtain rfl : j = 0 := by omega
        exact trivial⟩
      · show r = .slice _ (insT rows i v).length cap
        rw [hn]; exact hr
      · show (insT rows i v).length ≤ cap
        omega
      · show o + cap * 1 ≤ us.length
        omega
      · have hk : k < (insT rows i v).length := hk
        have hj : j < 1 := hj
        obtain rfl : j = 0 := by omega
        refine ⟨_, ?_, hone k (by omega), ?_⟩
        · show us[o + (k * 1 + 0)]? = _
          rw [Nat.mul_one, Nat.add_zero]; exact hu k (by omega)
        · show E.g (insSrc i [(k, 0)]) = insG E.g i r ((rt 16).kid k 0)
          rfl
    · refine ⟨?_, fun _ _ _ _ _ => trivial⟩
      rcases hP.blks _ _ (insSrc_at (v := v) hi hj) with ⟨h0, A, h1⟩ | ⟨b, q, cp, us2, h1, h2, h3, h4, h5, h6⟩
      · exact .inl ⟨h0, A, h1⟩
      · have hb : blkOf (E.g (insSrc i [(j, 0)])) = some b := by rw [h1, blkOf_slice h2]
        refine .inr ⟨b, q, cp, us2, h1, h2, h3, ?_, h5, fun k l hk hl => ?_⟩
        · rw [hoth b (hP.mine _ _ _ (insSrc_at hi hj) hb) (hne j b hj hb)]; exact h4
        · obtain ⟨u, g1, g2, g3⟩ := h6 k l hk hl
          exact ⟨u, g1, g2, g3⟩
  · rcases hlk N x h with ⟨rfl, rfl⟩ | ⟨j, hj, rfl, rfl⟩
    · have hb : blkOf r = some b := hb
      rw [hr, blkOf_slice (by omega)] at hb
      cases hb
      refine ⟨(Array.getElem?_eq_some_iff.1 hh).1, hbk.imp id fun h => ?_⟩
      rw [hP.b]; exact ⟨rt 0, _, hA, h⟩
    · have hb : blkOf (E.g (insSrc i [(j, 0)])) = some b := hb
      have := hP.mine _ _ _ (insSrc_at (v := v) hi hj) hb
      exact ⟨by omega, .inr (by rw [hP.b]; exact ⟨_, _, insSrc_at hi hj, hb⟩)⟩
  · have hroot : ∀ j, j < rows.length + 1 → blkOf r = some b → blkOf (E.g (insSrc i [(j, 0)])) = some b → False := fun j hj h1 h2 => by
      rw [hr, blkOf_slice (by omega)] at h1
      cases h1
      exact hne j bk hj h2 rfl
    rcases hlk N x h with ⟨rfl, rfl⟩ | ⟨j, hj, rfl, rfl⟩ <;> rcases hlk M y k with ⟨rfl, rfl⟩ | ⟨l, hl, rfl, rfl⟩
    · rfl
    · exact (hroot l hl hb kb).elim
    · exact (hroot j hj kb hb).elim
    · rw [insSrc_inj (hP.inj _ _ _ _ _ (insSrc_at hi hj) (insSrc_at hi hl) hb kb)]
  · rcases hlk M x h with ⟨rfl, rfl⟩ | ⟨j, hj, rfl, rfl⟩
    · obtain ⟨k, l, _, hl, h⟩ := hN
      have hl : l < 1 := hl
      obtain rfl : l = 0 := by omega
      exact h.elim
    · obtain ⟨k, l, _, _, h⟩ := hN
      exact h.elim
  · have := (lkx_one h).1
    unfold low at hL
    omega
end Go.Proofs.YtbepgedckfhifaaGreat
