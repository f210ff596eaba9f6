/-
  A map's keys, sorted.
-/
import Derived.Test.YtbepgedckfhifaaGreatSuHk
namespace Go.Proofs.YtbepgedckfhifaaGreat
open Go.Shelf Go.RowKit Go.Maps Go.Sort
set_option linter.unusedVariables false
set_option linter.unusedSimpArgs false
set_option maxRecDepth 100000
set_option maxHeartbeats 4000000
attribute [local irreducible] Fn
theorem fr_below {b : Nat → Prop} {w w' : World} (h : Below w.heap.size w w') : Fr b w w' := ⟨h.os, h.tape, h.output, h.size, fun k hk _ => h.block k hk⟩
theorem blk_row {base : Nat} {w' : World} {own : Bool → Nat → Prop} {γ : Nm → Value} {N : Nm} {T : Nat} {xs : List Int} {v : Value} (hg : γ N = v) (h : w'.ownsRow base T 1 v xs.length (xs.map (Value.int .i64))) : BlkOk w' own γ N (.row T (.ints .i64 xs)) := by
  obtain ⟨hl, ⟨e1, e2⟩ | ⟨g, cap, cur, e1, hge, hcells, hcap, hmax, hsz, htk⟩⟩ := h
  · exact .inl ⟨e2, none, by rw [hg, e1]⟩
  · by_cases h0 : cap = 0
    · subst h0
      have hz : xs.length = 0 := by omega
      exact .inl ⟨hz, _, by rw [hg, e1, hz]⟩
    · refine .inr ⟨g, 0, cap, cur.toList, by rw [hg, e1]; rfl, by omega, hcap, by rw [Array.toArray_toList]; exact hcells, by show 0 + cap * 1 ≤ _; simp; omega, fun k j hk hj => ?_⟩
      have hk : k < xs.length := hk
      have hj : j < 1 := hj
      obtain rfl : j = 0 := by omega
      refine ⟨.int .i64 (xs.getD k 0), ?_, rfl, rfl⟩
      show cur.toList[0 + (k * 1 + 0)]? = _
      have e9 : 0 + (k * 1 + 0) = k := by omega
      rw [e9]
      have h7 : (cur.toList.take (xs.length * 1))[k]? = (xs.map (Value.int .i64))[k]? := by rw [htk]
      rw [List.getElem?_take, if_pos (by omega)] at h7
      rw [h7, List.getElem?_map, List.getElem?_eq_getElem hk, List.getD_eq_getElem?_getD, List.getElem?_eq_getElem hk]; rfl
theorem row_blk {base : Nat} {w' : World} {T n : Nat} {xs : List Value} {v : Value} {bk : Nat} (h : w'.ownsRow base T 1 v n xs) (hb : blkOf v = some bk) : base ≤ bk ∧ bk < w'.heap.size := by
  obtain ⟨hl, ⟨e1, e2⟩ | ⟨g, cap, cur, e1, hge, hcells, _⟩⟩ := h
  · rw [e1] at hb; cases hb
  · rw [e1] at hb
    by_cases h0 : cap = 0
    · subst h0; cases hb
    · rw [blkOf_slice (by omega)] at hb
      have : g = bk := Option.some.inj hb
      subst this
      exact ⟨hge, (Array.getElem?_eq_some_iff.1 hcells).1⟩
abbrev kbox : Blk := .box (.cons (.om (rt 0)) .nil)
theorem keys_fn (m : Mc) : Fn Tryz.prog 39 true (.cons (.om (rt 0)) .nil) [(0, .mp 77 m)] (.fn 62 (.cons (.op (rt 16) 0) .nil)) [(0, .mp 77 m), (16, kbox)] := by
  unfold Fn
  refine ⟨⟨_, _, Tryz.func39, rfl, rfl⟩, fun E vs hP hr _ => ?_⟩
  obtain ⟨v, us0, rfl, h1, h2⟩ := hr
  obtain rfl : us0 = [] := h2
  obtain ⟨_, h1⟩ := h1
  obtain rfl : v = E.g (rt 0) := (List.cons.inj h1).1
  obtain ⟨r, es, clock, e1, hh, hes, hst⟩ := hP.blks (rt 0) _ (look_plain rfl)
  have hlt : r < E.w.heap.size := (Array.getElem?_eq_some_iff.1 hh).1
  have hown : E.b r := by rw [hP.b]; exact ⟨rt 0, _, look_plain rfl, by rw [e1]; rfl⟩
  have cK := callsIn_wide.1 (AnyZI.keys_in sh_keysA Fence.wide 5 trivial rfl (some r) E.w)
  rw [e1]
  refine cK.mono ?_
  rintro e w' ⟨rfl, rfl⟩
  generalize hT : sh_keysA_ren.t 23 = T
  let γ := upd E.g (rt 16) (.pointer (some ⟨E.w.heap.size, 0, none⟩))
  have g0 : γ (rt 0) = .map (some r) := by show upd _ _ _ _ = _; rw [upd_ne _ _ (by simp)]; exact e1
  have g1 : γ (rt 16) = .pointer (some ⟨E.w.heap.size, 0, none⟩) := upd_at _ _ _
  have pl : ∀ L x, lkx [(0, Blk.mp 77 m), (16, kbox)] L = some x → plainB x := fun L x h => by
    rcases lkc h with ⟨_, rfl⟩ | h
    · trivial
    · rw [(lk1 h).2]; trivial
  have at_ : ∀ {N : Nm} {z : Blk}, AtL (lkx [(0, Blk.mp 77 m), (16, kbox)]) N z → (N = rt 0 ∧ z = .mp 77 m) ∨ (N = rt 16 ∧ z = kbox) := fun h => by
    obtain ⟨h1, h2⟩ := plain_look pl h
    rcases lkc h2 with ⟨h3, h4⟩ | h3
    · exact .inl ⟨by rw [h1, h3], h4⟩
    · exact .inr ⟨by rw [h1, (lk1 h3).1], (lk1 h3).2⟩
  have hb : (E.w.alloc (.cells #[.map (some r)] T)).heap[r]? = E.w.heap[r]? := Below.heap_alloc _ _ r hlt
  refine ⟨_, γ, rfl, ⟨rfl, rfl, rfl, by simp, fun q hq _ => Below.heap_alloc _ _ q hq⟩, ⟨fun N x hN => ?_, fun N x b hN hbk => ?_, fun N M x y b hN hM hb1 hb2 => ?_, fun M x N hM hN => ?_, fun L x hL hx => ?_⟩, ⟨[.pointer (some ⟨E.w.heap.size, 0, none⟩)], rfl, _, _, rfl, ⟨rfl, by rw [g1]; rfl, _, _, fun j => by rw [g1]; rfl⟩, rfl⟩, fun _ => ⟨trivial, trivial⟩, fun N hN => ?_⟩
  · rcases at_ hN with ⟨rfl, rfl⟩ | ⟨rfl, rfl⟩
    · exact ⟨⟨r, es, clock, g0, hb.trans hh, hes, hst⟩, fun _ => trivial⟩
    · exact ⟨⟨_, [.map (some r)], T, g1, heap_alloc_new _ _, by simp [Value.oneCell'], _, _, rfl, ⟨rfl, by rw [g0]⟩, rfl⟩, fun _ => ⟨trivial, trivial⟩⟩
  · rcases at_ hN with ⟨rfl, rfl⟩ | ⟨rfl, rfl⟩
    · rw [g0] at hbk
      have : r = b := Option.some.inj hbk
      subst this
      exact ⟨by simp; omega, .inr hown⟩
    · rw [g1] at hbk
      have : E.w.heap.size = b := Option.some.inj hbk
      subst this
      exact ⟨by simp, .inl (Nat.le_refl _)⟩
  · rcases at_ hN with ⟨rfl, rfl⟩ | ⟨rfl, rfl⟩ <;> rcases at_ hM with ⟨rfl, rfl⟩ | ⟨rfl, rfl⟩
    · rfl
    · rw [g0] at hb1; rw [g1] at hb2
      have e3 : r = b := Option.some.inj hb1
      have e4 : E.w.heap.size = b := Option.some.inj hb2
      omega
    · rw [g1] at hb1; rw [g0] at hb2
      have e3 : E.w.heap.size = b := Option.some.inj hb1
      have e4 : r = b := Option.some.inj hb2
      omega
    · rfl
  · rcases at_ hM with ⟨rfl, rfl⟩ | ⟨rfl, rfl⟩
    · exact hN.elim
    · rcases hN with hN | hN
      · obtain rfl : rt 0 = N := hN
        exact ⟨_, look_plain rfl⟩
      · exact hN.elim
  · rcases lkc hx with ⟨rfl, _⟩ | hx
    · show upd _ _ _ _ = _
      rw [upd_ne _ _ (by simp)]
    · have := (lk1 hx).1
      unfold low at hL
      omega
  · rcases hN with hN | hN
    · obtain rfl : rt 16 = N := hN
      exact ⟨_, look_plain rfl⟩
    · exact hN.elim
theorem sorts_in (m : Nat) : AnyZI.SortsIn Tryz.prog sh_sortedA_ren Fence.wide m :=
  ⟨fun blk off cap ss W hH hblk hsz => callsIn_wide.2 (AnyM.slices_Sort_int sh_sortA blk off cap ss W hH hblk hsz),
   fun p cap W => callsIn_wide.2 (AnyM.slices_Sort_int_none sh_sortA p cap W)⟩
theorem entries_keys {H : Type} {P : Program} {k : Nat} {R : Value → Option (DataW H × List MemPlace)} (hk : P.underlying k = some (.int .i64)) : ∀ {l : List MapEntry} {es : List (Int × Bool)}, (∀ p ∈ es, W64 p.1) → (∀ b, ∃ z, R (.bool b) = some z) → l.map (fun e => (e.key, e.val)) = es.map (fun p => (Value.int .i64 p.1, Value.bool p.2)) →
    (∀ x ∈ l, ∃ y, WideElems.rd P k R x = some y) ∧ (l.map (WideElems.rg P k R)).map (fun p => Go.intOf p.1) = es.map (·.1) := by
  intro l
  induction l with
  | nil =>
    intro es _ _ h
    cases es with
    | nil => exact ⟨fun x hx => (by cases hx), rfl⟩
    | cons p es => cases h
  | cons e l ih =>
    intro es hw hR h
    cases es with
    | nil => cases h
    | cons p es =>
      simp only [List.map_cons, List.cons.injEq, Prod.mk.injEq] at h
      obtain ⟨⟨h1, h2⟩, h3⟩ := h
      obtain ⟨z, hz⟩ := hR p.2
      obtain ⟨key, val, born⟩ := e
      simp only at h1 h2
      subst h1 h2
      have hr : WideElems.rd P k R ⟨.int .i64 p.1, .bool p.2, born⟩ = some (.int .i64 p.1, z.1) := WideElems.rd_mk (keyOf_int_mk hk (hw p (by simp))) hz
      obtain ⟨i1, i2⟩ := ih (fun q hq => hw q (by simp [hq])) hR h3
      refine ⟨fun x hx => ?_, ?_⟩
      · rcases List.mem_cons.1 hx with rfl | hx
        · exact ⟨_, hr⟩
        · exact i1 x hx
      · rw [List.map_cons, List.map_cons, List.map_cons, i2, WideElems.rg_of hr]; rfl
theorem sorted_fn (es : List (Int × Bool)) (hw : ∀ p ∈ es, W64 p.1) (hl : es.length ≤ 1048576) : Fn Tryz.prog 38 true (.cons (.fn 62 (.cons (.op (rt 1) 0) .nil)) .nil) [(0, .mp 77 (.bools es)), (1, kbox)] (.os (rt 16)) [(0, .mp 77 (.bools es)), (1, kbox), (16, .row 3 (.ints .i64 (sortI (es.map (·.1)))))] := by
  unfold Fn
  refine ⟨⟨_, _, Tryz.func38, rfl, rfl⟩, fun E vs hP hr _ => ?_⟩
  obtain ⟨v, us0, rfl, h1, h2⟩ := hr
  obtain rfl : us0 = [] := h2
  obtain ⟨cs, h1, u, us1, rfl, ⟨_, h3, _⟩, h4⟩ := h1
  obtain rfl : us1 = [] := h4
  obtain rfl := (List.cons.inj h1).1
  obtain ⟨r, me, clock, e1, hh, hes, hst⟩ := hP.blks (rt 0) _ (look_plain rfl)
  obtain ⟨bk, us, ty, e2, hb2, _, u2, us2, rfl, ⟨_, h5⟩, h6⟩ := hP.blks (rt 1) _ (look_plain rfl)
  obtain rfl : us2 = [] := h6
  obtain rfl : u2 = .map (some r) := by rw [e1] at h5; exact (List.cons.inj h5).1
  obtain rfl : u = .pointer (some ⟨bk, 0, none⟩) := by rw [e2] at h3; exact (List.cons.inj h3).1
  have hlt : r < E.w.heap.size := (Array.getElem?_eq_some_iff.1 hh).1
  have hlt2 : bk < E.w.heap.size := (Array.getElem?_eq_some_iff.1 hb2).1
  have hown : E.b r := by rw [hP.b]; exact ⟨rt 0, _, look_plain rfl, by rw [e1]; rfl⟩
  have hown2 : E.b bk := by rw [hP.b]; exact ⟨rt 1, _, look_plain rfl, by rw [e2]; rfl⟩
  have hku : Tryz.prog.underlying (sh_keysA_ren.t 26) = some (.int .i64) := sh_keysA.t26
  have hmsz : me.size = es.length := by
    have := congrArg List.length hes
    simpa [Mc.entries] using this
  obtain ⟨k1, k2⟩ := entries_keys (H := Unit) (R := plainElem Tryz.prog 4) hku hw (fun b => ⟨_, plainElem_bool Tryz.underlying4 b⟩) (l := me.toList) (es := es) hes
  have F0 : WideElems.Fit (H := Unit) Tryz.prog (sh_keysA_ren.t 26) (plainElem Tryz.prog 4) me clock := ⟨by rw [hmsz]; unfold maxLen; omega, hst, k1⟩
  have hown0 := World.ownsMap_of_fit (w := E.w) hh F0 (fun _ _ _ h => h)
  have hsz0 : Maps.size (DataW.map ((me.toList.map (WideElems.rg (H := Unit) Tryz.prog (sh_keysA_ren.t 26) (plainElem Tryz.prog 4))).foldr DataW.insert [])) = es.length := by simp [Maps.size, length_sorted, hmsz]
  have hseq := AnyZI.keys_gives (ρ := sh_keysA_ren) { sh_keysA with } Fence.wide 2 trivial rfl (by omega) bk r me.size _ E.w hlt2 (by
    rw [cell_heap hb2]; rfl) hown0
  have cS := callsIn_wide.1 (AnyZI.sorted_in sh_sortedA Fence.wide 5 trivial trivial trivial trivial rfl (by omega) (sorts_in _) (enters_of Tryz.func61 (by kernel_rfl) rfl) 62 #[.pointer (some ⟨bk, 0, none⟩)] trivial (enters_of Tryz.func62 (by kernel_rfl) rfl) _ _ (by rw [hsz0]; unfold maxLen; omega) (by rw [hsz0]; omega) E.w hseq)
  refine cS.mono ?_
  rintro e w' ⟨v, ss, rfl, hS, hrow, _, hbel⟩
  have hperm : ss.Perm (es.map (·.1)) := hS.trans (by
    show List.Perm (List.map (fun p : Lit × DataW Unit => Go.intOf p.1) _) _
    rw [← k2]
    exact (Go.WideShapes.sorted_perm _).map _)
  have hss : ss.mergeSort (fun x y => decide (x ≤ y)) = sortI (es.map (·.1)) := mergeSort_of_perm_i hperm
  have hln : ss.length = (sortI (es.map (·.1))).length := by rw [sortI_len, hperm.length_eq]
  rw [hss, hln] at hrow
  let γ := upd E.g (rt 16) v
  have g0 : γ (rt 0) = .map (some r) := by show upd _ _ _ _ = _; rw [upd_ne _ _ (by simp)]; exact e1
  have g1 : γ (rt 1) = .pointer (some ⟨bk, 0, none⟩) := by show upd _ _ _ _ = _; rw [upd_ne _ _ (by simp)]; exact e2
  have g2 : γ (rt 16) = v := upd_at _ _ _
  generalize sortI (es.map (·.1)) = ys at hrow hln
  have pl : ∀ L x, lkx [(0, Blk.mp 77 (.bools es)), (1, kbox), (16, Blk.row 3 (.ints .i64 ys))] L = some x → plainB x := fun L x h => by
    rcases lkc h with ⟨_, rfl⟩ | h
    · trivial
    · rcases lkc h with ⟨_, rfl⟩ | h
      · trivial
      · rw [(lk1 h).2]; exact plain_ints
  have at_ : ∀ {N : Nm} {z : Blk}, AtL (lkx [(0, Blk.mp 77 (.bools es)), (1, kbox), (16, Blk.row 3 (.ints .i64 ys))]) N z → (N = rt 0 ∧ z = .mp 77 (.bools es)) ∨ (N = rt 1 ∧ z = kbox) ∨ (N = rt 16 ∧ z = .row 3 (.ints .i64 ys)) := fun h => by
    obtain ⟨h1, h2⟩ := plain_look pl h
    rcases lkc h2 with ⟨h3, h4⟩ | h3
    · exact .inl ⟨by rw [h1, h3], h4⟩
    · rcases lkc h3 with ⟨h3, h4⟩ | h3
      · exact .inr (.inl ⟨by rw [h1, h3], h4⟩)
      · exact .inr (.inr ⟨by rw [h1, (lk1 h3).1], (lk1 h3).2⟩)
  have bl : ∀ {N : Nm} {x : Blk} {b : Nat}, AtL (lkx [(0, Blk.mp 77 (.bools es)), (1, kbox), (16, Blk.row 3 (.ints .i64 ys))]) N x → blkOf (γ N) = some b → (N = rt 0 ∧ b = r) ∨ (N = rt 1 ∧ b = bk) ∨ (N = rt 16 ∧ E.w.heap.size ≤ b ∧ b < w'.heap.size) := fun hN hb => by
    rcases at_ hN with ⟨rfl, rfl⟩ | ⟨rfl, rfl⟩ | ⟨rfl, rfl⟩
    · rw [g0] at hb; exact .inl ⟨rfl, (Option.some.inj hb).symm⟩
    · rw [g1] at hb; exact .inr (.inl ⟨rfl, (Option.some.inj hb).symm⟩)
    · rw [g2] at hb; exact .inr (.inr ⟨rfl, row_blk hrow hb⟩)
  have hne : r ≠ bk := fun e => by rw [e, hb2] at hh; cases hh
  have hsw := hbel.size
  refine ⟨_, γ, rfl, fr_below hbel, ⟨fun N x hN => ?_, fun N x b hN hbk => ?_, fun N M x y b hN hM hb1 hb3 => ?_, fun M x N hM hN => ?_, fun L x hL hx => ?_⟩, ⟨rfl, by rw [g2]⟩, fun _ => trivial, fun N hN => ?_⟩
  · rcases at_ hN with ⟨rfl, rfl⟩ | ⟨rfl, rfl⟩ | ⟨rfl, rfl⟩
    · exact ⟨⟨r, me, clock, g0, (hbel.block r hlt).trans hh, hes, hst⟩, fun _ => trivial⟩
    · exact ⟨⟨bk, [.map (some r)], ty, g1, (hbel.block bk hlt2).trans hb2, by simp [Value.oneCell'], _, _, rfl, ⟨rfl, by rw [g0]⟩, rfl⟩, fun _ => ⟨trivial, trivial⟩⟩
    · exact ⟨blk_row g2 hrow, fun _ _ _ _ _ => trivial⟩
  · rcases bl hN hbk with ⟨_, rfl⟩ | ⟨_, rfl⟩ | ⟨_, h7, h8⟩
    · exact ⟨by omega, .inr hown⟩
    · exact ⟨by omega, .inr hown2⟩
    · exact ⟨h8, .inl h7⟩
  · rcases bl hN hb1 with ⟨rfl, rfl⟩ | ⟨rfl, rfl⟩ | ⟨rfl, h7, h8⟩ <;> rcases bl hM hb3 with ⟨rfl, h9⟩ | ⟨rfl, h9⟩ | ⟨rfl, h9, h10⟩ <;> first | rfl | (exfalso; omega)
  · rcases at_ hM with ⟨rfl, rfl⟩ | ⟨rfl, rfl⟩ | ⟨rfl, rfl⟩
    · exact hN.elim
    · rcases hN with hN | hN
      · obtain rfl : rt 0 = N := hN
        exact ⟨_, look_plain rfl⟩
      · exact hN.elim
    · obtain ⟨i, j, _, _, h⟩ := hN
      exact h.elim
  · rcases lkc hx with ⟨rfl, _⟩ | hx
    · show upd _ _ _ _ = _
      rw [upd_ne _ _ (by simp)]
    · rcases lkc hx with ⟨rfl, _⟩ | hx
      · show upd _ _ _ _ = _
        rw [upd_ne _ _ (by simp)]
      · have := (lk1 hx).1
        unfold low at hL
        omega
  · obtain rfl : rt 16 = N := hN
    exact ⟨_, look_plain rfl⟩
end Go.Proofs.YtbepgedckfhifaaGreat
