/-
  slices.Insert at [][]int: its contract (the roads).
-/
import Derived.Test.YtbepgedckfhifaaGreatFiKb
namespace Go.Proofs.YtbepgedckfhifaaGreat
open Go.Shelf Go.RowKit
set_option linter.unusedVariables false
set_option linter.unusedSimpArgs false
set_option maxRecDepth 100000
set_option maxHeartbeats 4000000
attribute [local irreducible] Fn
theorem setCells_fr {b : Nat} : ∀ (vs : List Value) (o : Nat) (w : World), (w.setCells b o vs).os = w.os ∧ (w.setCells b o vs).tape = w.tape ∧ (w.setCells b o vs).output = w.output := by
  intro vs
  induction vs with
  | nil => intro o w; exact ⟨rfl, rfl, rfl⟩
  | cons v r ih => intro o w; exact ih (o + 1) (w.setCell ⟨b, o, none⟩ v)
theorem allocN_at {w : World} {c : Array Value} {t : TypeId} : (w.alloc (.cells c t)).heap[w.heap.size]? = some (.cells c t (0, 0)) := by simp [World.alloc, -World.alloc_eq]
theorem allocN_size {w : World} {c : Array Value} {t : TypeId} : (w.alloc (.cells c t)).heap.size = w.heap.size + 1 := by simp [World.alloc, -World.alloc_eq]
theorem allocN_other {w : World} {c : Array Value} {t : TypeId} {k : Nat} (h : k < w.heap.size) : (w.alloc (.cells c t)).heap[k]? = w.heap[k]? := by
  simp only [World.alloc, Array.getElem?_push]
  rw [if_neg (by omega)]
theorem zcs_len {v : Value} {n : Nat} (h : v.cells.size = 1) : (Builtin.zeroCells v.cells n).toList.length = n := by
  simp [Builtin.zeroCells, h]
theorem insert_fn (rows : List (List Int)) (v : List Int) (i : Nat) (hi : i ≤ rows.length) (h : rows.length ≤ 1048576) : Fn Tryz.prog 195 true (.cons (.os (rt 0)) (.cons (.I i) (.cons (.os (rt 1)) .nil))) (insS 22 rows v) (.os (rt 16)) [(16, .row 22 (.tab (insT rows i v).length 1 (cellsA ints_O_i64 (insT rows i v))))] := by
  unfold Fn
  refine ⟨⟨_, _, Tryz.func195, rfl, rfl⟩, fun E vs hP hr _ => ?_⟩
  obtain ⟨a0, r0, rfl, h0, a1, r1, rfl, h1, a2, r2, rfl, h2, h3⟩ := hr
  obtain rfl : r2 = [] := h3
  obtain ⟨_, h0⟩ := h0
  obtain rfl : a0 = E.g (rt 0) := (List.cons.inj h0).1
  obtain ⟨_, h2⟩ := h2
  obtain rfl : a2 = E.g (rt 1) := (List.cons.inj h2).1
  obtain rfl : a1 = .int .i64 (i : Int) := by have h5 : [a1] = [Value.int .i64 (i : Int)] := h1; simpa using h5
  have hA : AtL (lkx (insS 22 rows v)) (rt 0) (.row 22 (.tab rows.length 1 (cellsA ints_O_i64 rows))) := ⟨_, rfl, rfl⟩
  have hB : AtL (lkx (insS 22 rows v)) (rt 1) (.row 22 (.tab 1 1 fun _ _ => .os (rt 2))) := ⟨_, rfl, rfl⟩
  rcases hP.blks _ _ hB with ⟨e0, _⟩ | ⟨vb, vo, vc, vus, e1, hvp, hvc, hvh, hvr, hvcell⟩
  · exact absurd e0 (by show ¬ (1 = 0); omega)
  obtain ⟨vu, g1, g2, g3⟩ := hvcell 0 0 (by show 0 < 1; omega) (by show 0 < 1; omega)
  have g3 : vu = E.g (rt 2) := (List.cons.inj (g3.rep rfl).2).1
  subst g3
  have hvs : ∀ j u, [E.g (rt 2)][j]? = some u → E.w.cell? ⟨vb, vo + j, none⟩ = some u := fun j u hj => by
    match j, hj with
    | 0, hj =>
      cases hj
      have g1 : vus[vo + (0 * 1 + 0)]? = _ := g1
      simp only [World.cell?, hvh, Option.isSome_none]
      rw [if_neg (by simp), List.getElem?_toArray]
      exact g1
  have h1v : ∀ u ∈ [E.g (rt 2)], u.oneCell' = true := fun u hu => by
    rw [List.mem_singleton.1 hu]; exact g2
  have hone : ∀ j, j < rows.length → (E.g ⟨0, [(j, 0)]⟩).oneCell' = true := fun j hj => by
    rcases hP.blks _ _ (at_row_kid (lk := lkx (insS 22 rows v)) (rows := rows) (L := 0) rfl hj) with ⟨_, A, h⟩ | ⟨_, _, _, _, h, _⟩ <;> rw [h] <;> rfl
  obtain ⟨cs, hcs⟩ : ∃ cs, cs = (List.range rows.length).map (fun j => E.g ⟨0, [(j, 0)]⟩) := ⟨_, rfl⟩
  have hcl : cs.length = rows.length := by rw [hcs]; simp
  have hca : ∀ j, j < rows.length → cs[j]? = some (E.g ⟨0, [(j, 0)]⟩) := fun j hj => by rw [hcs, List.getElem?_map, List.getElem?_range hj]; rfl
  have h1c : ∀ u ∈ cs, u.oneCell' = true := fun u hu => by
    rw [hcs] at hu
    obtain ⟨j, hj, rfl⟩ := List.mem_map.1 hu
    exact hone j (List.mem_range.1 hj)
  rcases hP.blks _ _ hA with ⟨e0, A, e2⟩ | ⟨bk, o, cap, us, e2, hp, hc, hh, hroom, hcell⟩
  · obtain rfl : rows = [] := List.eq_nil_of_length_eq_zero (by have e0 : rows.length = 0 ∨ 1 = 0 := by first | exact e0 | exact .inl e0 | (have := Nat.mul_eq_zero.1 e0; exact this)
                                                                omega)
    obtain rfl : i = 0 := by have hi : i ≤ 0 := hi; omega
    rw [e2, e1]
    refine (insV_end_grow insLay A 0 0 vb vo 1 vc [] [E.g (rt 2)] E.w Nat.one_pos (Nat.le_refl _) Nat.one_pos (by omega) rfl rfl (fun _ => rfl) (fun a _ j u hj => by cases hj) hvs h1v).mono ?_
    rintro e w' ⟨rfl, rfl⟩
    refine ⟨_, insG E.g 0 (.slice (some ⟨E.w.heap.size, 0, none⟩) 1 (grownCap E.w 1 0 (insRen.t 9))), rfl, ?_, ins_post (bk := E.w.heap.size) (o := 0) (us := [E.g (rt 2)] ++ (Builtin.zeroCells (Value.slice none 0 0).cells (grownCap E.w 1 0 (insRen.t 9) - 1)).toList) hi hP rfl (grownCap_ge E.w 1 0 _) ?_ ?_ (fun j hj => ?_) ?_ (fun k hk hkb => ?_) (.inl (Nat.le_refl _)), ?_, fun _ => trivial, fun N hN => ?_⟩
    · exact ⟨rfl, rfl, rfl, by rw [allocN_size]; exact Nat.le_succ _, fun k hk hl => allocN_other hk⟩
    · refine allocN_at.trans ?_
      congr 2
      simp
    · rw [List.length_append, zcs_len rfl]
      have := grownCap_ge E.w 1 0 (insRen.t 9)
      simp only [List.length_singleton]
      omega
    · obtain rfl : j = 0 := by have hj : j < 0 + 1 := hj; omega
      rfl
    · rw [allocN_size]; exact Nat.le_succ _
    · exact allocN_other hk
    · exact ⟨rfl, rfl⟩
    · have hN : rt 16 = N := hN
      subst hN
      exact ⟨_, _, rfl, rfl⟩
  have hcap : rows.length ≤ cap := hc
  have hroom : o + cap ≤ us.length := by have h5 : o + cap * 1 ≤ us.length := hroom; omega
  have hca2 : ∀ j u, cs[j]? = some u → E.w.cell? ⟨bk, o + j, none⟩ = some u := fun j u hj => by
    have hjl : j < rows.length := by rw [← hcl]; exact (List.getElem?_eq_some_iff.1 hj).1
    rw [hca j hjl] at hj
    cases hj
    obtain ⟨u, k1, k2, k3⟩ := hcell j 0 hjl (by show 0 < 1; omega)
    have k3 : u = E.g ⟨0, [(j, 0)]⟩ := k3
    subst k3
    have k1 : us[o + (j * 1 + 0)]? = _ := k1
    rw [Nat.mul_one, Nat.add_zero] at k1
    simp only [World.cell?, hh, Option.isSome_none]
    rw [if_neg (by simp), List.getElem?_toArray]
    exact k1
  have hne : vb ≠ bk := fun e => by
    subst e
    have := hP.inj _ _ _ _ _ hA hB (by rw [e2, blkOf_slice hp]) (by rw [e1, blkOf_slice hvp])
    cases this
  by_cases hr : rows.length + 1 ≤ cap
  · rcases Nat.lt_or_eq_of_le hi with hlt | heq
    · rw [e2, e1]
      refine (insV_shift insLay bk o rows.length cap i vb vo 1 vc cs [E.g (rt 2)] E.w hlt Nat.one_pos hr (by omega) hne hcl rfl hca2 (fun j hj => ?_) (fun j hj => ?_) hvs h1c h1v 22 22 vus.length us.length (by simp [World.shape?, hvh]) (by simp [World.shape?, hh]) (by omega) (by simp [World.frozen?, hvh]) (by simp [World.frozen?, hvh])).mono ?_
      · simp only [World.cell?, hh, Option.isSome_none]
        rw [if_neg (by simp), List.getElem?_toArray, List.getElem?_eq_getElem (by show o + j < us.length; omega)]
        rfl
      · simp [World.frozen?, hh]
      · have hdl : (cs.drop i).length = rows.length - i := by rw [List.length_drop, hcl]
        obtain ⟨⟨us1, p1, p2, p3⟩, p4, p5⟩ := setCells_heap (cs.drop i) (o + (i + 1)) E.w.drew us hh (by rw [hdl]; omega)
        obtain ⟨⟨us2, q1, q2, q3⟩, q4, q5⟩ := setCells_heap [E.g (rt 2)] (o + i) _ us1 p1 (by show o + i + 1 ≤ us1.length; omega)
        have hsize : (E.w.drew).heap.size = E.w.heap.size := rfl
        rintro e w' ⟨rfl, rfl⟩
        refine ⟨_, insG E.g i (.slice (some ⟨bk, o, none⟩) (rows.length + 1) cap), rfl, ?_, ins_post hi hP rfl hr q1 (by omega) (fun j hj => ?_) (by rw [q4, p4, hsize]; exact Nat.le_refl _) (fun k hk hkb => (q5 k hkb).trans (p5 k hkb)) (.inr (by rw [e2, blkOf_slice hp])), ?_, fun _ => trivial, fun N hN => ?_⟩
        · refine ⟨(setCells_fr _ _ _).1.trans (setCells_fr _ _ _).1, (setCells_fr _ _ _).2.1.trans (setCells_fr _ _ _).2.1, (setCells_fr _ _ _).2.2.trans (setCells_fr _ _ _).2.2, by rw [q4, p4, hsize]; exact Nat.le_refl _, fun k hk hl => ?_⟩
          have hkb : k ≠ bk := fun e => hl (by subst e; rw [hP.b]; exact ⟨rt 0, _, hA, by rw [e2, blkOf_slice hp]⟩)
          exact (q5 k hkb).trans (p5 k hkb)
        · rw [q3, insSrc_eq, List.length_singleton]
          split
          · have ej : j = i := by omega
            subst ej
            rw [if_neg (by omega), if_pos rfl, Nat.sub_self]; rfl
          · rw [p3, hdl]
            split
            · rw [if_neg (by omega), if_neg (by omega), List.getElem?_drop, ← hca (j - 1) (by omega)]
              congr 1; omega
            · rw [if_pos (by omega)]
              obtain ⟨u, k1, k2, k3⟩ := hcell j 0 (by show j < rows.length; omega) (by show 0 < 1; omega)
              have k3 : u = E.g ⟨0, [(j, 0)]⟩ := k3
              subst k3
              have k1 : us[o + (j * 1 + 0)]? = _ := k1
              rw [Nat.mul_one, Nat.add_zero] at k1
              exact k1
        · exact ⟨rfl, rfl⟩
        · have hN : rt 16 = N := hN
          subst hN
          exact ⟨_, _, rfl, rfl⟩
    · subst heq
      rw [e2, e1]
      have hat : ∀ j, j < 1 → o + rows.length + j < us.length := fun j hj => by omega
      refine (insV_end_room insLay bk o rows.length cap vb vo 1 vc [E.g (rt 2)] E.w Nat.one_pos hr (by omega) rfl (fun j hj => ?_) (fun j hj => ?_) hvs h1v).mono ?_
      · simp only [World.cell?, hh, Option.isSome_none]
        rw [if_neg (by simp), List.getElem?_toArray, List.getElem?_eq_getElem (hat j hj)]
        rfl
      · simp [World.frozen?, hh]
      · obtain ⟨⟨us2, q1, q2, q3⟩, q4, q5⟩ := setCells_heap [E.g (rt 2)] (o + rows.length) E.w us hh (by show o + rows.length + 1 ≤ us.length; omega)
        rintro e w' ⟨rfl, rfl⟩
        refine ⟨_, insG E.g rows.length (.slice (some ⟨bk, o, none⟩) (rows.length + 1) cap), rfl, ?_, ins_post hi hP rfl hr q1 (by omega) (fun j hj => ?_) (by rw [q4]; exact Nat.le_refl _) (fun k hk hkb => q5 k hkb) (.inr (by rw [e2, blkOf_slice hp])), ?_, fun _ => trivial, fun N hN => ?_⟩
        · refine ⟨(setCells_fr _ _ _).1, (setCells_fr _ _ _).2.1, (setCells_fr _ _ _).2.2, by rw [q4]; exact Nat.le_refl _, fun k hk hl => ?_⟩
          have hkb : k ≠ bk := fun e => hl (by subst e; rw [hP.b]; exact ⟨rt 0, _, hA, by rw [e2, blkOf_slice hp]⟩)
          exact q5 k hkb
        · rw [q3, insSrc_eq, List.length_singleton]
          split
          · have ej : j = rows.length := by omega
            subst ej
            rw [if_neg (by omega), if_pos rfl, Nat.sub_self]; rfl
          · rw [if_pos (by omega)]
            obtain ⟨u, k1, k2, k3⟩ := hcell j 0 (by show j < rows.length; omega) (by show 0 < 1; omega)
            have k3 : u = E.g ⟨0, [(j, 0)]⟩ := k3
            subst k3
            have k1 : us[o + (j * 1 + 0)]? = _ := k1
            rw [Nat.mul_one, Nat.add_zero] at k1
            exact k1
        · exact ⟨rfl, rfl⟩
        · have hN : rt 16 = N := hN
          subst hN
          exact ⟨_, _, rfl, rfl⟩
  · have hG := grownCap_ge E.w (rows.length + 1) cap (insRen.t 9)
    rcases Nat.lt_or_eq_of_le hi with hlt | heq
    · rw [e2, e1]
      refine (insV_grow insLay bk o rows.length cap i vb vo 1 vc cs [E.g (rt 2)] E.w hlt Nat.one_pos hcap (by omega) (by omega) hcl rfl hca2 hvs h1c h1v).mono ?_
      generalize grownCap E.w (rows.length + 1) cap (insRen.t 9) = G at hG ⊢
      have hdl : (cs.drop i).length = rows.length - i := by rw [List.length_drop, hcl]
      have htl : (cs.take i).length = i := by rw [List.length_take, hcl]; omega
      obtain ⟨us0, hus0⟩ : ∃ us0, us0 = cs.take i ++ (Builtin.zeroCells (Value.slice none 0 0).cells (rows.length + 1 - i)).toList ++ (Builtin.zeroCells (Value.slice none 0 0).cells (G - (rows.length + 1))).toList := ⟨_, rfl⟩
      have hul : us0.length = G := by
        rw [hus0, List.length_append, List.length_append, zcs_len rfl, zcs_len rfl, htl]; omega
      have e4 : (cs.take i).toArray ++ Builtin.zeroCells (Value.slice none 0 0).cells (rows.length + 1 - i) ++ Builtin.zeroCells (Value.slice none 0 0).cells (G - (rows.length + 1)) = us0.toArray := by rw [hus0]; simp
      rw [e4]
      obtain ⟨⟨us1, p1, p2, p3⟩, p4, p5⟩ := setCells_heap [E.g (rt 2)] i (E.w.alloc (.cells us0.toArray (insRen.t 9))).drew us0 allocN_at (by show i + 1 ≤ us0.length; omega)
      obtain ⟨⟨us2, q1, q2, q3⟩, q4, q5⟩ := setCells_heap (cs.drop i) (i + 1) ((E.w.alloc (.cells us0.toArray (insRen.t 9))).drew.setCells E.w.heap.size i [E.g (rt 2)]).drew us1 p1 (by rw [hdl]; omega)
      have hsize : ((E.w.alloc (.cells us0.toArray (insRen.t 9))).drew).heap.size = E.w.heap.size + 1 := allocN_size
      have hsize2 : (((E.w.alloc (.cells us0.toArray (insRen.t 9))).drew.setCells E.w.heap.size i [E.g (rt 2)]).drew).heap.size = E.w.heap.size + 1 := p4.trans hsize
      have hfr : ∀ k, k < E.w.heap.size → ((((E.w.alloc (.cells us0.toArray (insRen.t 9))).drew.setCells E.w.heap.size i [E.g (rt 2)]).drew).setCells E.w.heap.size (i + 1) (cs.drop i)).heap[k]? = E.w.heap[k]? := fun k hk => (q5 k (by omega)).trans ((p5 k (by omega)).trans (allocN_other hk))
      rintro e w' ⟨rfl, rfl⟩
      refine ⟨_, insG E.g i (.slice (some ⟨E.w.heap.size, 0, none⟩) (rows.length + 1) G), rfl, ?_, ins_post (o := 0) hi hP rfl hG q1 (by omega) (fun j hj => ?_) (by rw [q4, hsize2]; exact Nat.le_succ _) (fun k hk hkb => hfr k hk) (.inl (Nat.le_refl _)), ?_, fun _ => trivial, fun N hN => ?_⟩
      · refine ⟨(setCells_fr _ _ _).1.trans (setCells_fr _ _ _).1, (setCells_fr _ _ _).2.1.trans (setCells_fr _ _ _).2.1, (setCells_fr _ _ _).2.2.trans (setCells_fr _ _ _).2.2, by rw [q4, hsize2]; exact Nat.le_succ _, fun k hk hl => hfr k hk⟩
      · rw [Nat.zero_add, q3, hdl, insSrc_eq]
        split
        · rw [if_neg (by omega), if_neg (by omega), List.getElem?_drop, ← hca (j - 1) (by omega)]
          congr 1; omega
        · rw [p3, List.length_singleton]
          split
          · have ej : j = i := by omega
            subst ej
            rw [if_neg (by omega), if_pos rfl, Nat.sub_self]; rfl
          · rw [if_pos (by omega), hus0, List.append_assoc, List.getElem?_append_left (by rw [htl]; omega), List.getElem?_take, if_pos (by omega), ← hca j (by omega)]
      · exact ⟨rfl, rfl⟩
      · have hN : rt 16 = N := hN
        subst hN
        exact ⟨_, _, rfl, rfl⟩
    · subst heq
      rw [e2, e1]
      refine (insV_end_grow insLay (some ⟨bk, o, none⟩) rows.length cap vb vo 1 vc cs [E.g (rt 2)] E.w Nat.one_pos hcap (by omega) (by omega) hcl rfl (fun h => by cases h) (fun a ha j u hj => by cases ha; rw [Addr.add_lit]; exact hca2 j u hj) hvs h1v).mono ?_
      generalize grownCap E.w (rows.length + 1) cap (insRen.t 9) = G at hG ⊢
      rintro e w' ⟨rfl, rfl⟩
      refine ⟨_, insG E.g rows.length (.slice (some ⟨E.w.heap.size, 0, none⟩) (rows.length + 1) G), rfl, ?_, ins_post (bk := E.w.heap.size) (o := 0) (us := cs ++ [E.g (rt 2)] ++ (Builtin.zeroCells (Value.slice none 0 0).cells (G - (rows.length + 1))).toList) hi hP rfl hG ?_ ?_ (fun j hj => ?_) ?_ (fun k hk hkb => ?_) (.inl (Nat.le_refl _)), ?_, fun _ => trivial, fun N hN => ?_⟩
      · exact ⟨rfl, rfl, rfl, by rw [allocN_size]; exact Nat.le_succ _, fun k hk hl => allocN_other hk⟩
      · refine allocN_at.trans ?_
        congr 2
        simp
      · rw [List.length_append, List.length_append, zcs_len rfl, hcl]
        simp only [List.length_singleton]
        omega
      · rw [Nat.zero_add, insSrc_eq, List.append_assoc]
        split
        · rw [List.getElem?_append_left (by omega), ← hca j (by omega)]
        · have ej : j = rows.length := by omega
          subst ej
          rw [if_pos rfl, List.getElem?_append_right (by omega), hcl, Nat.sub_self]; rfl
      · rw [allocN_size]; exact Nat.le_succ _
      · exact allocN_other hk
      · exact ⟨rfl, rfl⟩
      · have hN : rt 16 = N := hN
        subst hN
        exact ⟨_, _, rfl, rfl⟩
end Go.Proofs.YtbepgedckfhifaaGreat
