/-
  Slices turned round: slices.Reverse, by the library's contract.
-/
import Derived.Test.YtomjemikjnpinaaDoorSsFm
import Derived.Shelf.Slices.Reverse
namespace Go.Proofs.YtomjemikjnpinaaDoor
open Go.Shelf Go.RowKit
set_option linter.unusedVariables false
set_option linter.unusedSimpArgs false
set_option maxRecDepth 100000
set_option maxHeartbeats 4000000
attribute [local irreducible] Fn
def revRen : Ren := ⟨fun | 112 => 39 | n => n, fun | 28 => 29 | 4 => 4 | 3 => 3 | 0 => 0 | n => n, fun n => n⟩
theorem revLay : Lays.n112 Tryd.prog revRen := by
  constructor
  · kernel_rfl
  · kernel_rfl
  · kernel_rfl
  · intro w; rfl
  · intro w; rfl
  · intro w; rfl
  · kernel_rfl
  · intro w; rfl
  · intro w; rfl
  · intro w; rfl
  · kernel_rfl
  · intro w; rfl
  · intro w; rfl
  · intro w; rfl
  · kernel_rfl
  · intro w; rfl
  · intro w; rfl
  · intro w; rfl
theorem at_ints {T : Nat} {k : IntKind} {xs : List Int} {N : Nm} {z : Blk} (h : AtL (lkx [(0, .row T (.ints k xs))]) N z) : N = rt 0 ∧ z = .row T (.ints k xs) := by
  obtain ⟨r, p⟩ := N
  obtain ⟨x, h1, h2⟩ := h
  simp only [lkx] at h1
  cases hb : Nat.beq 0 r with
  | false => rw [hb] at h1; cases h1
  | true =>
    rw [hb] at h1
    cases h1
    obtain rfl := Nat.eq_of_beq_eq_true hb
    cases p with
    | nil => exact ⟨rfl, h2⟩
    | cons q p =>
      obtain ⟨e, c, y, e1, h3, h4, h5, _⟩ := h2
      cases e1
      cases h5
theorem at_ints0 {T : Nat} {k : IntKind} {xs : List Int} : AtL (lkx [(0, .row T (.ints k xs))]) (rt 0) (.row T (.ints k xs)) := ⟨_, rfl, rfl⟩
/-- A function that turns a row of integers in place. -/
theorem Fn_inplace {P : Program} {f T : Nat} {k : IntKind} {xs ys : List Int} (hE : Ent P f) (hl : ys.length = xs.length)
    (hc : ∀ (blk off cap : Nat) (w : World), Go.Sort.Holds (Value.int k) w blk off xs.toArray → Calls P f #[.slice (some ⟨blk, off, none⟩) xs.length cap] w fun e w' => e = .returned (.tuple #[]) ∧ ∃ n, w' = Go.Sort.putRow (Value.int k) (Go.Sort.ahead w n) blk off ys.toArray)
    (h0 : xs.length = 0 → ∀ A w, Calls P f #[.slice A 0 0] w fun e w' => e = .returned (.tuple #[]) ∧ w' = w) :
    Fn P f true (.cons (.os (rt 0)) .nil) [(0, .row T (.ints k xs))] (.tup .nil) [(0, .row T (.ints k ys))] := by
  unfold Fn
  refine ⟨hE, fun E vs hP hr _ => ?_⟩
  obtain ⟨v, us0, rfl, h1, h2⟩ := hr
  obtain rfl : us0 = [] := h2
  obtain ⟨_, h1⟩ := h1
  obtain rfl : v = E.g (rt 0) := (List.cons.inj h1).1
  have hb := hP.blks _ _ at_ints0
  rcases hb with ⟨e0, A, e1⟩ | ⟨bk, o, cap, us, e1, hpos, hcap, hh, hroom, hcell⟩
  · have e0 : xs.length = 0 := e0
    rw [e1]
    refine (h0 e0 A E.w).mono ?_
    rintro e w' ⟨rfl, rfl⟩
    refine ⟨_, E.g, rfl, Fr.refl _ _, ⟨fun N x hN => ?_, fun N x b hN hb => ?_, fun N M x y b hN hM _ _ => by rw [(at_ints hN).1, (at_ints hM).1], fun M x N hM hN => ?_, fun _ _ _ _ => rfl⟩, ⟨[], rfl, rfl⟩, fun _ => trivial, fun N hN => hN.elim⟩
    · obtain ⟨rfl, rfl⟩ := at_ints hN
      exact ⟨.inl ⟨hl.trans e0, A, e1⟩, fun _ _ _ _ _ => trivial⟩
    · obtain ⟨rfl, rfl⟩ := at_ints hN
      rw [e1] at hb
      cases A <;> cases hb
    · obtain ⟨rfl, rfl⟩ := at_ints hM
      obtain ⟨i, j, _, _, h⟩ := hN
      exact h.elim
  · have hlen : (Ct.ints k xs).len = xs.length := rfl
    rw [hlen] at e1 hcap hcell
    have hlt : bk < E.w.heap.size := (Array.getElem?_eq_some_iff.1 hh).1
    have hown : E.b bk := by rw [hP.b]; exact ⟨rt 0, _, at_ints0, by rw [e1]; simp [blkOf]; omega⟩
    rw [e1]
    refine (hc bk o cap E.w ?_).mono ?_
    · intro j hj
      have hj : j < xs.length := by simpa using hj
      obtain ⟨u, h3, _, h4⟩ := hcell j 0 hj (by show 0 < 1; omega)
      have h4 : u = .int k (xs.getD j 0) := by have h5 : [u] = [Value.int k (xs.getD j 0)] := h4; simpa using h5
      subst h4
      have h3 : us[o + j]? = some (.int k (xs.getD j 0)) := by have : o + (j * 1 + 0) = o + j := by omega
                                                               rw [← this]; exact h3
      refine ⟨?_, ?_⟩
      · simp only [World.cell?, hh]
        simp only [Option.isSome_none]
        rw [if_neg (by simp), List.getElem?_toArray, h3]
        congr 2
        rw [getElem!_pos xs.toArray j (by simpa using hj)]
        simp [List.getD_eq_getElem?_getD, hj]
      · simp only [World.frozen?, hh]
        simp
    · rintro e w' ⟨rfl, n, rfl⟩
      have hsz : (Go.Sort.putRow (Value.int k) (Go.Sort.ahead E.w n) bk o ys.toArray).heap.size = E.w.heap.size := by rw [Go.Sort.size_putRow]; rfl
      have hoth : ∀ q, q ≠ bk → (Go.Sort.putRow (Value.int k) (Go.Sort.ahead E.w n) bk o ys.toArray).heap[q]? = E.w.heap[q]? := fun q hq => by
        unfold Go.Sort.putRow Go.Sort.mapBlock Go.Sort.ahead
        simp only [Array.getElem?_modify]
        rw [if_neg (fun e => hq e.symm)]
      have hnew : (Go.Sort.putRow (Value.int k) (Go.Sort.ahead E.w n) bk o ys.toArray).heap[bk]? = some (.cells (Go.Sort.putCells (Value.int k) o ys.toArray us.toArray) T (0, 0)) := by
        unfold Go.Sort.putRow Go.Sort.mapBlock Go.Sort.ahead
        simp only [Array.getElem?_modify]
        rw [if_pos trivial, hh]
        rfl
      refine ⟨_, E.g, rfl, ⟨rfl, rfl, rfl, by rw [hsz]; exact Nat.le_refl _, fun q _ hq => hoth q (fun e => hq (e ▸ hown))⟩, ⟨fun N x hN => ?_, fun N x b hN hb => ?_, fun N M x y b hN hM _ _ => by rw [(at_ints hN).1, (at_ints hM).1], fun M x N hM hN => ?_, fun _ _ _ _ => rfl⟩, ⟨[], rfl, rfl⟩, fun _ => trivial, fun N hN => hN.elim⟩
      · obtain ⟨rfl, rfl⟩ := at_ints hN
        refine ⟨.inr ⟨bk, o, cap, (Go.Sort.putCells (Value.int k) o ys.toArray us.toArray).toList, ?_, hpos, ?_, ?_, ?_, fun i j hi hj => ?_⟩, fun _ _ _ _ _ => trivial⟩
        · show E.g (rt 0) = .slice _ ys.length cap
          rw [hl]; exact e1
        · show ys.length ≤ cap
          omega
        · rw [hnew, Array.toArray_toList]
        · show o + cap * 1 ≤ _
          have : o + cap * 1 ≤ us.length := hroom
          simp [Go.Sort.putCells]; omega
        · have hi : i < ys.length := hi
          have hj : j < 1 := hj
          obtain rfl : j = 0 := by omega
          obtain ⟨u, h3, _, _⟩ := hcell i 0 (by omega) (by show 0 < 1; omega)
          have hin : o + i < us.length := by have := (List.getElem?_eq_some_iff.1 h3).1; have e9 : (Ct.ints k xs).st = 1 := rfl; rw [e9] at this; omega
          refine ⟨.int k (ys.getD i 0), ?_, rfl, rfl⟩
          show (Go.Sort.putCells (Value.int k) o ys.toArray us.toArray).toList[o + (i * 1 + 0)]? = _
          have : o + (i * 1 + 0) = o + i := by omega
          rw [this, Array.getElem?_toList]
          unfold Go.Sort.putCells
          rw [Array.getElem?_mapIdx]
          simp only [List.getElem?_toArray, List.getElem?_eq_getElem hin, Option.map_some]
          rw [if_pos ⟨by omega, by simp; omega⟩]
          congr 2
          have e9 : o + i - o = i := by omega
          rw [e9, getElem!_pos ys.toArray i (by simpa using hi)]
          simp [List.getD_eq_getElem?_getD, hi]
      · obtain ⟨rfl, rfl⟩ := at_ints hN
        rw [e1] at hb
        rw [blkOf_slice hpos] at hb
        have hb : bk = b := Option.some.inj hb
        subst hb
        exact ⟨by rw [hsz]; exact hlt, .inr hown⟩
      · obtain ⟨rfl, rfl⟩ := at_ints hM
        obtain ⟨i, j, _, _, h⟩ := hN
        exact h.elim
theorem reverse_fn (xs : List Int) (h : xs.length ≤ 1048576) : Fn Tryd.prog 39 true (.cons (.os (rt 0)) .nil) [(0, .row 3 (.ints .i64 xs))] (.tup .nil) [(0, .row 3 (.ints .i64 xs.reverse))] :=
  Fn_inplace ⟨_, _, Tryd.func39, rfl, rfl⟩ (by simp) (fun blk off cap w hH => Any.slices_Reverse_int revLay blk off cap xs w hH (by omega)) (fun _ A w => Any.slices_Reverse_int_empty revLay A 0 w)
end Go.Proofs.YtomjemikjnpinaaDoor
