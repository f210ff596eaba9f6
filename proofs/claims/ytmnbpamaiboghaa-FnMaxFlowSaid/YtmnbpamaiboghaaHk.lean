/-
  Slices sorted; a map's keys, sorted: the library's contracts turned to contracts of the evaluator.
-/
import Derived.Test.YtmnbpamaiboghaaFo
import Derived.Test.YtmnbpamaiboghaaSh
namespace Go.Proofs.Ytmnbpamaiboghaa
open Go.Shelf Go.RowKit Go.Maps Go.Sort
set_option linter.unusedVariables false
set_option linter.unusedSimpArgs false
set_option maxRecDepth 100000
set_option maxHeartbeats 4000000
attribute [local irreducible] Fn
def sortI (xs : List Int) : List Int := xs.mergeSort fun x y => decide (x ≤ y)
theorem sortI_mem {xs : List Int} {x : Int} : x ∈ sortI xs ↔ x ∈ xs := List.mem_mergeSort
theorem sortI_len {xs : List Int} : (sortI xs).length = xs.length := List.length_mergeSort xs
theorem sortI_perm {xs : List Int} : (sortI xs).Perm xs := List.mergeSort_perm xs _
theorem sortI_up {xs : List Int} : (sortI xs).Pairwise (fun a b => a ≤ b) :=
  (List.pairwise_mergeSort (le := fun x y : Int => decide (x ≤ y)) (fun a b c h1 h2 => by simp only [decide_eq_true_eq] at *; omega) (fun a b => by simp only [Bool.or_eq_true, decide_eq_true_eq]; omega) xs).imp (fun h => of_decide_eq_true h)
/-- Blocks that hold no slices in cells. -/
def plainB : Blk → Prop
  | .box _ => True
  | .mp _ _ => True
  | .row _ c => ∀ i j, (c.cell i j).sub = none
theorem plain_at {x z : Blk} {p : List (Nat × Nat)} (hx : plainB x) (h : x.At p z) : p = [] ∧ z = x := by
  cases p with
  | nil => exact ⟨rfl, h⟩
  | cons q p =>
    obtain ⟨e, c, y, rfl, h1, h2, h3, _⟩ := h
    rw [hx] at h3; cases h3
theorem plain_look {σ : List (Nat × Blk)} (hσ : ∀ L x, lkx σ L = some x → plainB x) {N : Nm} {z : Blk} (h : AtL (lkx σ) N z) : N = rt N.r ∧ lkx σ N.r = some z := by
  obtain ⟨r, p⟩ := N
  obtain ⟨x, h1, h2⟩ := h
  obtain ⟨rfl, rfl⟩ := plain_at (hσ _ _ h1) h2
  exact ⟨rfl, h1⟩
theorem look_plain {σ : List (Nat × Blk)} {L : Nat} {z : Blk} (h : lkx σ L = some z) : AtL (lkx σ) (rt L) z := ⟨z, h, rfl⟩
theorem plain_ints {T : Nat} {k : IntKind} {xs : List Int} : plainB (.row T (.ints k xs)) := fun _ _ => rfl
theorem lk1 {a L : Nat} {x z : Blk} (h : lkx [(a, x)] L = some z) : L = a ∧ z = x := by
  simp only [lkx] at h
  cases hb : Nat.beq a L with
  | false => rw [hb] at h; cases h
  | true => rw [hb] at h; cases h; exact ⟨(Nat.eq_of_beq_eq_true hb).symm, rfl⟩
theorem lkc {a L : Nat} {x z : Blk} {σ : List (Nat × Blk)} (h : lkx ((a, x) :: σ) L = some z) : (L = a ∧ z = x) ∨ lkx σ L = some z := by
  simp only [lkx] at h
  cases hb : Nat.beq a L with
  | false => rw [hb] at h; exact .inr h
  | true => rw [hb] at h; cases h; exact .inl ⟨(Nat.eq_of_beq_eq_true hb).symm, rfl⟩
/-- A function that changes a row of integers in place, and may leave new memory behind. -/
theorem Fn_inplaceG {P : Program} {f T : Nat} {k : IntKind} {xs ys : List Int} (hE : Ent P f) (hl : ys.length = xs.length)
    (hc : ∀ (blk off cap : Nat) (w : World), Go.Sort.Holds (Value.int k) w blk off xs.toArray → blk < w.heap.size → Calls P f #[.slice (some ⟨blk, off, none⟩) xs.length cap] w fun e w' => e = .returned (.tuple #[]) ∧ ∃ n os, w' = Go.Sort.grow (Go.Sort.putRow (Value.int k) (Go.Sort.ahead w n) blk off ys.toArray) os)
    (h0 : xs.length = 0 → ∀ A w, Calls P f #[.slice A 0 0] w fun e w' => e = .returned (.tuple #[]) ∧ w' = w) :
    Fn P f true (.cons (.os (rt 0)) .nil) [(0, .row T (.ints k xs))] (.tup .nil) [(0, .row T (.ints k ys))] := by
  unfold Fn
  have pl : ∀ {zs : List Int}, ∀ L x, lkx [(0, .row T (.ints k zs))] L = some x → plainB x := fun L x h => (lk1 h).2 ▸ plain_ints
  have at_ : ∀ {zs : List Int} {N : Nm} {z : Blk}, AtL (lkx [(0, .row T (.ints k zs))]) N z → N = rt 0 ∧ z = .row T (.ints k zs) := fun h => by
    obtain ⟨h1, h2⟩ := plain_look pl h
    obtain ⟨h3, h4⟩ := lk1 h2
    exact ⟨by rw [h1, h3], h4⟩
  refine ⟨hE, fun E vs hP hr _ => ?_⟩
  obtain ⟨v, us0, rfl, h1, h2⟩ := hr
  obtain rfl : us0 = [] := h2
  obtain ⟨_, h1⟩ := h1
  obtain rfl : v = E.g (rt 0) := (List.cons.inj h1).1
  have hb := hP.blks (rt 0) _ (look_plain rfl)
  rcases hb with ⟨e0, A, e1⟩ | ⟨bk, o, cap, us, e1, hpos, hcap, hh, hroom, hcell⟩
  · have e0 : xs.length = 0 := e0
    rw [e1]
    refine (h0 e0 A E.w).mono ?_
    rintro e w' ⟨rfl, rfl⟩
    refine ⟨_, E.g, rfl, Fr.refl _ _, ⟨fun N x hN => ?_, fun N x b hN hb => ?_, fun N M x y b hN hM _ _ => by rw [(at_ hN).1, (at_ hM).1], fun M x N hM hN => ?_, fun _ _ _ _ => rfl⟩, ⟨[], rfl, rfl⟩, fun _ => trivial, fun N hN => hN.elim⟩
    · obtain ⟨rfl, rfl⟩ := at_ hN
      exact ⟨.inl ⟨hl.trans e0, A, e1⟩, fun _ _ _ _ _ => trivial⟩
    · obtain ⟨rfl, rfl⟩ := at_ hN
      rw [e1] at hb
      cases A <;> cases hb
    · obtain ⟨rfl, rfl⟩ := at_ hM
      obtain ⟨i, j, _, _, h⟩ := hN
      exact h.elim
  · have hlen : (Ct.ints k xs).len = xs.length := rfl
    rw [hlen] at e1 hcap hcell
    have hlt : bk < E.w.heap.size := (Array.getElem?_eq_some_iff.1 hh).1
    have hown : E.b bk := by rw [hP.b]; exact ⟨rt 0, _, look_plain rfl, by rw [e1]; simp [blkOf]; omega⟩
    rw [e1]
    refine (hc bk o cap E.w ?_ hlt).mono ?_
    · intro j hj
      have hj : j < xs.length := by simpa using hj
      obtain ⟨u, h3, _, h4⟩ := hcell j 0 hj (by show 0 < 1; omega)
      have h4 : u = .int k (xs.getD j 0) := by have h5 : [u] = [Value.int k (xs.getD j 0)] := h4; simpa using h5
      subst h4
      have h3 : us[o + j]? = some (.int k (xs.getD j 0)) := by have : o + (j * 1 + 0) = o + j := by omega
                                                               rw [← this]; exact h3
      refine ⟨?_, ?_⟩
      · simp only [World.cell?, hh]
        simp only [Option.isSome_none]
        rw [if_neg (by simp), List.getElem?_toArray, h3]
        congr 2
        rw [getElem!_pos xs.toArray j (by simpa using hj)]
        simp [List.getD_eq_getElem?_getD, hj]
      · simp only [World.frozen?, hh]
        simp
    · rintro e w' ⟨rfl, n, os, rfl⟩
      have hsz0 : (Go.Sort.putRow (Value.int k) (Go.Sort.ahead E.w n) bk o ys.toArray).heap.size = E.w.heap.size := by rw [Go.Sort.size_putRow]; rfl
      have hsz : E.w.heap.size ≤ (Go.Sort.grow (Go.Sort.putRow (Value.int k) (Go.Sort.ahead E.w n) bk o ys.toArray) os).heap.size := by rw [Go.Sort.size_grow, hsz0]; omega
      have hoth : ∀ q, q < E.w.heap.size → q ≠ bk → (Go.Sort.grow (Go.Sort.putRow (Value.int k) (Go.Sort.ahead E.w n) bk o ys.toArray) os).heap[q]? = E.w.heap[q]? := fun q hq0 hq => by
        rw [Go.Sort.heap_grow_old _ _ (by rw [hsz0]; exact hq0)]
        unfold Go.Sort.putRow Go.Sort.mapBlock Go.Sort.ahead
        simp only [Array.getElem?_modify]
        rw [if_neg (fun e => hq e.symm)]
      have hnew : (Go.Sort.grow (Go.Sort.putRow (Value.int k) (Go.Sort.ahead E.w n) bk o ys.toArray) os).heap[bk]? = some (.cells (Go.Sort.putCells (Value.int k) o ys.toArray us.toArray) T (0, 0)) := by
        rw [Go.Sort.heap_grow_old _ _ (by rw [hsz0]; exact hlt)]
        unfold Go.Sort.putRow Go.Sort.mapBlock Go.Sort.ahead
        simp only [Array.getElem?_modify]
        rw [if_pos trivial, hh]
        rfl
      refine ⟨_, E.g, rfl, ⟨rfl, rfl, rfl, hsz, fun q hq0 hq => hoth q hq0 (fun e => hq (e ▸ hown))⟩, ⟨fun N x hN => ?_, fun N x b hN hb => ?_, fun N M x y b hN hM _ _ => by rw [(at_ hN).1, (at_ hM).1], fun M x N hM hN => ?_, fun _ _ _ _ => rfl⟩, ⟨[], rfl, rfl⟩, fun _ => trivial, fun N hN => hN.elim⟩
      · obtain ⟨rfl, rfl⟩ := at_ hN
        refine ⟨.inr ⟨bk, o, cap, (Go.Sort.putCells (Value.int k) o ys.toArray us.toArray).toList, ?_, hpos, ?_, ?_, ?_, fun i j hi hj => ?_⟩, fun _ _ _ _ _ => trivial⟩
        · show E.g (rt 0) = .slice _ ys.length cap
          rw [hl]; exact e1
        · show ys.length ≤ cap
          omega
        · rw [hnew, Array.toArray_toList]
        · show o + cap * 1 ≤ _
          have : o + cap * 1 ≤ us.length := hroom
          simp [Go.Sort.putCells]; omega
        · have hi : i < ys.length := hi
          have hj : j < 1 := hj
          obtain rfl : j = 0 := by omega
          obtain ⟨u, h3, _, _⟩ := hcell i 0 (by omega) (by show 0 < 1; omega)
          have hin : o + i < us.length := by have := (List.getElem?_eq_some_iff.1 h3).1; have e9 : (Ct.ints k xs).st = 1 := rfl; rw [e9] at this; omega
          refine ⟨.int k (ys.getD i 0), ?_, rfl, rfl⟩
          show (Go.Sort.putCells (Value.int k) o ys.toArray us.toArray).toList[o + (i * 1 + 0)]? = _
          have : o + (i * 1 + 0) = o + i := by omega
          rw [this, Array.getElem?_toList]
          unfold Go.Sort.putCells
          rw [Array.getElem?_mapIdx]
          simp only [List.getElem?_toArray, List.getElem?_eq_getElem hin, Option.map_some]
          rw [if_pos ⟨by omega, by simp; omega⟩]
          congr 2
          have e9 : o + i - o = i := by omega
          rw [e9, getElem!_pos ys.toArray i (by simpa using hi)]
          simp [List.getD_eq_getElem?_getD, hi]
      · obtain ⟨rfl, rfl⟩ := at_ hN
        rw [e1] at hb
        rw [blkOf_slice hpos] at hb
        have hb : bk = b := Option.some.inj hb
        subst hb
        exact ⟨by omega, .inr hown⟩
      · obtain ⟨rfl, rfl⟩ := at_ hM
        obtain ⟨i, j, _, _, h⟩ := hN
        exact h.elim
theorem sort_fn (xs : List Int) (h : xs.length ≤ 1048576) : Fn Try.prog 101 true (.cons (.os (rt 0)) .nil) [(0, .row 3 (.ints .i64 xs))] (.tup .nil) [(0, .row 3 (.ints .i64 (sortI xs)))] :=
  Fn_inplaceG ⟨_, _, Try.func101, rfl, rfl⟩ sortI_len (fun blk off cap w hH hb => AnyM.slices_Sort_int sh_sortA blk off cap xs w hH hb (by omega)) (fun _ A w => AnyM.slices_Sort_int_none sh_sortA A 0 w)
end Go.Proofs.Ytmnbpamaiboghaa
