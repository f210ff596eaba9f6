/-
  A vector put into a basis, of the program.
-/
import Derived.Test.YtbepgedckfhifaaGreatFiKi
namespace Go.Proofs.YtbepgedckfhifaaGreat
set_option linter.unusedVariables false
set_option linter.unusedSimpArgs false
set_option maxRecDepth 100000
set_option maxHeartbeats 4000000
attribute [local irreducible] Fn
def midR (R : List (List Int)) (e : List Int) (qx i : Nat) : List (List Int) := (List.range R.length).map fun j => if j < i then LA.insR R e qx j else R.getD j []
theorem midR_len {R : List (List Int)} {e : List Int} {qx i : Nat} : (midR R e qx i).length = R.length := by simp [midR]
theorem midR_at {R : List (List Int)} {e : List Int} {qx i j : Nat} (h : j < R.length) : (midR R e qx i).getD j default = if j < i then LA.insR R e qx j else R.getD j default := by
  simp [midR, List.getD_eq_getElem?_getD, h]
theorem midR_zero {R : List (List Int)} {e : List Int} {qx : Nat} : midR R e qx 0 = R := by
  apply List.ext_getElem (by simp [midR])
  intro i h1 h2
  simp [midR, List.getD_eq_getElem?_getD, h2]
theorem midR_ne {R : List (List Int)} {e : List Int} {qx i j : Nat} (h : j < R.length) (hn : j ≠ i) : (midR R e qx (i + 1)).getD j default = (midR R e qx i).getD j default := by
  rw [midR_at h, midR_at h]
  by_cases e1 : j < i
  · rw [if_pos e1, if_pos (by omega)]
  · rw [if_neg e1, if_neg (by omega)]
theorem midR_now {R : List (List Int)} {e : List Int} {qx i : Nat} (h : i < R.length) : (midR R e qx i).getD i default = R.getD i default := by rw [midR_at h, if_neg (by omega)]
theorem midR_new {R : List (List Int)} {e : List Int} {qx i : Nat} (h : i < R.length) : (midR R e qx (i + 1)).getD i default = LA.insR R e qx i := by rw [midR_at h, if_pos (by omega)]
theorem insT_mid {R : List (List Int)} {e : List Int} {qx : Nat} : insT (midR R e qx R.length) (LA.insA R e qx R.length) e = LA.insW R e qx := by
  have : midR R e qx R.length = (List.range R.length).map (LA.insR R e qx) := by
    unfold midR
    refine List.map_congr_left (fun j hj => ?_)
    rw [if_pos (List.mem_range.1 hj)]
  rw [this]
  unfold insT LA.insW
  simp
theorem insA_zero {R : List (List Int)} {e : List Int} {qx : Nat} : ((LA.insA R e qx 0 : Nat) : Int) = 0 := rfl
theorem insA_succ {R : List (List Int)} {e : List Int} {qx i : Nat} : LA.insA R e qx (i + 1) = if LA.lead (LA.insR R e qx i) < qx then i + 1 else LA.insA R e qx i := rfl
theorem insA_le {R : List (List Int)} {e : List Int} {qx i : Nat} : LA.insA R e qx i ≤ i := by
  induction i with
  | zero => exact Nat.le_refl _
  | succ i ih => rw [insA_succ]; split <;> omega
theorem insR_lead {w : Nat} {R : List (List Int)} {v u : List Int} (h : LA.RedL w R) (hu : LA.InsOk w R v u) (hl : LA.lead u < u.length) {i : Nat} (hi : i < R.length) : LA.lead (LA.insR R (LA.insE u) (LA.lead u) i) < w := by
  obtain ⟨h1, _⟩ := LA.insW_ok h hu hl
  obtain ⟨a1, a2⟩ := LA.insW_len (R := R) (e := LA.insE u) (qx := LA.lead u)
  by_cases c : i < LA.insA R (LA.insE u) (LA.lead u) R.length
  · have h2 : LA.lead ((LA.insW R (LA.insE u) (LA.lead u)).getD i []) < w := h1.red.lt i (by rw [a2]; omega)
    rw [LA.insW_at (by omega), if_neg (by omega), if_pos c] at h2
    exact h2
  · have h2 : LA.lead ((LA.insW R (LA.insE u) (LA.lead u)).getD (i + 1) []) < w := h1.red.lt (i + 1) (by rw [a2]; omega)
    rw [LA.insW_at (by omega), if_neg (by omega), if_neg (by omega), Nat.add_sub_cancel] at h2
    exact h2
theorem insR_eq {R : List (List Int)} {e : List Int} {qx i : Nat} : LA.insR R e qx i = LA.addS (R.getD i default) e ((1019 - (R.getD i default).getD qx 0) % 1019) := by with_unfolding_all rfl
theorem insE_eq {u : List Int} : LA.insE u = LA.sclS u (LA.invI (u.getD (LA.lead u) 0)) := rfl
theorem insL_yes {R : List (List Int)} {v : List Int} (h : LA.lead (LA.redV R v R.length) < (LA.redV R v R.length).length) : LA.insL R v = LA.insW R (LA.insE (LA.redV R v R.length)) (LA.lead (LA.redV R v R.length)) := if_pos h
theorem insL_no {R : List (List Int)} {v : List Int} (h : ¬ LA.lead (LA.redV R v R.length) < (LA.redV R v R.length).length) : LA.insL R v = R := if_neg h
theorem os_ints {s : St} {N : Nm} {e : TypeId} {k : IntKind} {xs : List Int} (h : s.blk N = some (.row e (.ints k xs))) : (match s.blk N with | some (.row _ (.ints q ys)) => q = k ∧ ys = xs | _ => False) := by
  rw [h]; exact ⟨rfl, rfl⟩
theorem blk_kid {s : St} {R i : Nat} {e : TypeId} {c : Ct} {y : Blk} (h : s.rblk R = some (.row e c)) (hc : (c.cell i 0).sub = some y) : s.blk ((rt R).kid i 0) = some y := by
  simp [St.blk, rt, Nm.kid, h, Blk.look, hc]
attribute [local irreducible] LA.insL LA.redV LA.addS LA.lead lix LA.sclS LA.insR LA.insA LA.insW LA.insE midR insT LA.invI
theorem iInsN_fn {w : Nat} (R : List (List Int)) (v : List Int) (h : LA.RedL w R) (hw : w ≤ 40) (hv : LA.VecOk w v) (hn : ¬ LA.lead (LA.redV R v R.length) < (LA.redV R v R.length).length) : Fn Tryz.prog 175 true (.cons (.op (rt 0) 0) (.cons (.ri false .i64 v) .nil)) [(0, .box (.cons (.I w) (.cons (.os (rt 1)) .nil))), (1, .row 22 (.tab R.length 1 (cellsA ints_O_i64 R)))] .ff [(0, .box (.cons (.I w) (.cons (.os (rt 1)) .nil))), (1, .row 22 (.tab R.length 1 (cellsA ints_O_i64 R)))] := by
  have hok := (LA.redV_ok (R := R) hv R.length).1
  have c1 := iRe_fn R v h hw hv
  have c2 := iLix_fn (LA.redV R v R.length) (by omega)
  rw [lix_no hn] at c2
  (refine Fn_of tysOk Tryz.func175 rfl rfl (by simp [AV.len, Tryz.f175]) ⟨?_⟩; conv => whnf)
  (repeat' first | ((with_reducible show ∃ _ : Bool, _); first | (refine ⟨_, [], _, [], _, _, c1, rfl, trivial, zW, Nx.mk ?_⟩; conv => whnf)|(refine ⟨_, [], _, [], _, _, c2, rfl, trivial, zW, Nx.mk ?_⟩; conv => whnf))  | (refine zK (fun hs => ?_) (fun hs => ?_) <;> ((try simp only [Ct.len] at hs); revert hs; intro _; conv => whnf)) | (refine zI (fun _ => ?_) (fun _ => ?_)<;> conv => whnf)|((first|refine zA ?_|refine zB ?_|refine zC ?_|refine zD ?_|refine zE ?_|refine zF ?_|refine zG ?_|fail); conv => whnf)|(refine zJ (fun _ => ?_) ?_<;> conv => whnf)|((first | refine condN Tryz.underlying4 (Nx.mk ?_) | refine zH ?_ | refine Nx.mk ?_); conv => whnf))
  (all_goals try first | contradiction | (exfalso; omega))
  all_goals
    refine ⟨[], rfl, ?_, ?_, ?_, fun _ => ?_⟩
    · ((try conv => whnf); refine ⟨rfl, by rfl, ?_, ?_⟩ <;> ((repeat' ((try conv => whnf); (first|exact zU|refine And.intro ?_ ?_|exact fun _ _ _ _ => Eq.refl _|refine cellJ (fun _ _ => ?_)|(refine cellB ?_; (conv => whnf); refine And.intro ?_ ?_)|exact zV|fail))) <;> (try conv => whnf)))
    all_goals ((repeat' ((try conv => whnf); (first|exact zU|refine And.intro ?_ ?_|exact fun _ _ _ _ => Eq.refl _|refine cellJ (fun _ _ => ?_)|(refine cellB ?_; (conv => whnf); refine And.intro ?_ ?_)|exact zV|fail))) <;> (try conv => whnf))
theorem iInsY_fn {w : Nat} (R : List (List Int)) (v : List Int) (h : LA.RedL w R) (hw : w ≤ 40) (hv : LA.VecOk w v) (hn : LA.lead (LA.redV R v R.length) < (LA.redV R v R.length).length) : Fn Tryz.prog 175 true (.cons (.op (rt 0) 0) (.cons (.ri false .i64 v) .nil)) [(0, .box (.cons (.I w) (.cons (.os (rt 1)) .nil))), (1, .row 22 (.tab R.length 1 (cellsA ints_O_i64 R)))] .tt [(0, .box (.cons (.I w) (.cons (.os (rt 16)) .nil))), (16, .row 22 (.tab (LA.insL R v).length 1 (cellsA ints_O_i64 (LA.insL R v))))] := by
  have hl := red_len h
  have hok := LA.redV_ok (R := R) hv R.length
  have hul := hok.1
  have c1 := iRe_fn R v h hw hv
  have c2 := iLix_fn (LA.redV R v R.length) (by omega)
  rw [lix_yes hn] at c2
  rw [insL_yes hn]
  have hI := LA.redV_ins h hv
  have hld := fun i (hi : i < R.length) => insR_lead h hI hn hi
  generalize LA.redV R v R.length = u at *
  have hk := hok.at_ (i := LA.lead u) (by omega)
  have h0 := LA.lead_ne u hn
  have c3 := iInv_fn (u.getD (LA.lead u) 0) hk
  have c4 := iScl_fn u (LA.invI (u.getD (LA.lead u) 0)) hok hw (invI_bd _)
  rw [← insE_eq] at c4
  have heo : LA.VecOk w (LA.insE u) := by rw [insE_eq]; exact LA.sclS_ok hul
  have hel := heo.1
  generalize hqx : LA.lead u = qx at *
  generalize LA.insE u = e at *
  have hit := insT_mid (R := R) (e := e) (qx := qx)
  have hA0 : ((LA.insA R e qx 0 : Nat) : Int) = 0 := insA_zero
  (refine Fn_of tysOk Tryz.func175 rfl rfl (by simp [AV.len, Tryz.f175]) ⟨?_⟩; conv => whnf)
  (repeat' first | ((with_reducible show ∃ _ : Bool, _); first | (refine ⟨_, [], _, [], _, _, c1, rfl, trivial, zW, Nx.mk ?_⟩; conv => whnf)|(refine ⟨_, [], _, [], _, _, c2, rfl, trivial, zW, Nx.mk ?_⟩; conv => whnf)|(refine ⟨_, [], _, [], _, _, c3, rfl, trivial, zW, Nx.mk ?_⟩; conv => whnf)|(refine ⟨_, [], _, [], _, _, c4, rfl, trivial, zW, Nx.mk ?_⟩; conv => whnf)) | (refine idxInt qx rfl (show qx < u.length by omega) (Nx.mk ?_); conv => whnf)|(refine zK (fun hs => ?_) (fun hs => ?_) <;> ((try simp only [Ct.len] at hs); revert hs; intro _; conv => whnf)) | (refine zI (fun _ => ?_) (fun _ => ?_)<;> conv => whnf)|((first|refine zA ?_|refine zB ?_|refine zC ?_|refine zD ?_|refine zE ?_|refine zF ?_|refine zG ?_|fail); conv => whnf)|(refine zJ (fun _ => ?_) ?_<;> conv => whnf)|((first | refine condN Tryz.underlying4 (Nx.mk ?_) | refine zH ?_ | refine Nx.mk ?_); conv => whnf))
  (all_goals try first | contradiction | (exfalso; omega))
  refine loopI tysOk [] (fun i : Nat => [(7, .I (LA.insA R e qx i)), (32, .I i)]) (fun i => [(1, some (.row 22 (.tab R.length 1 (cellsA ints_O_i64 (midR R e qx i)))))]) (fun i => i ≤ R.length) (fun i => R.length - i) 0 (Nat.zero_le _) ?_ ?_
  · ((try conv => whnf); refine ⟨rfl, by rfl, ?_, ?_⟩ <;> ((repeat' ((try conv => whnf); (first|exact zU|refine And.intro ?_ ?_|exact fun _ _ _ _ => Eq.refl _|refine cellJ (fun _ _ => ?_)|(refine cellB ?_; (conv => whnf); refine And.intro ?_ ?_)|exact zV|fail))) <;> (try conv => whnf)))
    all_goals first | (rw [midR_zero]; done) | exact hA0.symm | trace_state
  intro i hi
  by_cases hlt : i < R.length
  · have hro := red_ok h i hlt
    have hrl := hro.1
    have hxk := hro.at_ (i := qx) (by omega)
    have hnow := midR_now (e := e) (qx := qx) hlt
    have hnew := midR_new (e := e) (qx := qx) hlt
    have hne := fun j (hj : j < R.length) (hn : j ≠ i) => midR_ne (e := e) (qx := qx) hj hn
    have hA := insA_succ (R := R) (e := e) (qx := qx) (i := i)
    have hll := hld i hlt
    have hie := insR_eq (R := R) (e := e) (qx := qx) (i := i)
    have hok2 : LA.VecOk w (LA.insR R e qx i) := by rw [hie]; exact LA.addS_ok hrl
    have c5 := iLix_fn (LA.insR R e qx i) (by have := hok2.1; omega)
    rw [lix_yes (by have := hok2.1; omega)] at c5
    by_cases h7 : (R.getD i default).getD qx 0 = 0
    · rw [h7, LA.addS_zero hro (by omega)] at hie
      rw [hie] at c5 hA hnew
      rw [← hnow] at c5 hrl h7 hxk hA
      (repeat' first | ((with_reducible show ∃ _ : Bool, _); first | (refine ⟨_, [], _, [], _, _, c5, rfl, trivial, zW, Nx.mk ?_⟩; conv => whnf)) | (refine idxInt qx rfl (show qx < ((midR R e qx i).getD i default).length by omega) (Nx.mk ?_); conv => whnf)|(refine zK (fun hs => ?_) (fun hs => ?_) <;> ((try simp only [Ct.len] at hs); revert hs; intro _; conv => whnf)) | (refine zI (fun _ => ?_) (fun _ => ?_)<;> conv => whnf)|((first|refine zA ?_|refine zB ?_|refine zC ?_|refine zD ?_|refine zE ?_|refine zF ?_|refine zG ?_|fail); conv => whnf)|(refine zJ (fun _ => ?_) ?_<;> conv => whnf)|((first | refine condN Tryz.underlying4 (Nx.mk ?_) | refine zH ?_ | refine Nx.mk ?_); conv => whnf))
      (all_goals try first | contradiction | (exfalso; omega))
      all_goals
        refine ⟨i + 1, by omega, by omega, ?_⟩
        ((try conv => whnf); refine ⟨rfl, by rfl, ?_, ?_⟩ <;> ((repeat' ((try conv => whnf); (first|exact zU|refine And.intro ?_ ?_|exact fun _ _ _ _ => Eq.refl _|refine cellJ (fun _ _ => ?_)|(refine cellB ?_; (conv => whnf); refine And.intro ?_ ?_)|exact zV|fail))) <;> (try conv => whnf)))
        all_goals first
          | (rw [hA, if_pos (by omega)]; rfl)
          | (rw [hA, if_neg (by omega)]; done)
          | (rename_i x hx
             have hx : x < R.length := hx
             by_cases e1 : x = i
             · rw [e1, hnew]
               first | exact hnow | rfl
             · exact (hne x hx e1).symm)
          | trace_state
    · rw [Int.emod_eq_of_lt (by omega) (by omega)] at hie
      have c6 := iAddS_fn (R.getD i default) e (1019 - (R.getD i default).getD qx 0) hro heo hw (by omega)
      rw [← hie] at c6
      rw [← hnow] at c6 hrl h7 hxk
      (repeat' first | (refine idxInt qx rfl (show qx < ((midR R e qx i).getD i default).length by omega) (Nx.mk ?_); conv => whnf)|(refine zK (fun hs => ?_) (fun hs => ?_) <;> ((try simp only [Ct.len] at hs); revert hs; intro _; conv => whnf)) | (refine zI (fun _ => ?_) (fun _ => ?_)<;> conv => whnf)|((first|refine zA ?_|refine zB ?_|refine zC ?_|refine zD ?_|refine zE ?_|refine zF ?_|refine zG ?_|fail); conv => whnf)|(refine zJ (fun _ => ?_) ?_<;> conv => whnf)|((first | refine condN Tryz.underlying4 (Nx.mk ?_) | refine zH ?_ | refine Nx.mk ?_); conv => whnf))
      (all_goals try first | contradiction | (exfalso; omega))
      have hil : i < (Ct.tab R.length 1 (cellsA ints_O_i64 (midR R e qx i))).len := hlt
      refine ⟨_, [(rt 1).kid i 0], _, _, _, _, c6, rfl, ?_, ?_, Nx.mk ?_⟩
      · conv => whnf
        refine ⟨rfl, ⟨_, at_kid (N := rt 1) ⟨_, Eq.refl _, Eq.refl _⟩ hil (Nat.le_of_ble_eq_true (Eq.refl true)) (Eq.refl _)⟩, ?_, trivial⟩
        ((repeat' ((try conv => whnf); (first|exact zU|refine And.intro ?_ ?_|exact fun _ _ _ _ => Eq.refl _|refine cellJ (fun _ _ => ?_)|(refine cellB ?_; (conv => whnf); refine And.intro ?_ ?_)|exact zV|fail))) <;> (try conv => whnf))
      · ((repeat' ((try conv => whnf); (first|exact zU|refine And.intro ?_ ?_|exact fun _ _ _ _ => Eq.refl _|refine cellJ (fun _ _ => ?_)|(refine cellB ?_; (conv => whnf); refine And.intro ?_ ?_)|exact zV|fail))) <;> (try conv => whnf))
      conv => whnf
      refine ⟨_, [], _, [], _, _, c5, rfl, trivial, ?_, Nx.mk ?_⟩
      · conv => whnf
        refine ⟨?_, trivial⟩
        conv => whnf
        refine ⟨rfl, rfl, rfl, ?_⟩
        refine os_ints (e := 3) (blk_kid (y := .row 3 (.ints .i64 (LA.insR R e qx i))) (Eq.refl _) ?_)
        simp only [Ct.cell, Ct.put, Nat.beq_refl, Bool.and_self, cond_true]
        rfl
      conv => whnf
      (repeat' first  | (refine zK (fun hs => ?_) (fun hs => ?_) <;> ((try simp only [Ct.len] at hs); revert hs; intro _; conv => whnf)) | (refine zI (fun _ => ?_) (fun _ => ?_)<;> conv => whnf)|((first|refine zA ?_|refine zB ?_|refine zC ?_|refine zD ?_|refine zE ?_|refine zF ?_|refine zG ?_|fail); conv => whnf)|(refine zJ (fun _ => ?_) ?_<;> conv => whnf)|((first | refine condN Tryz.underlying4 (Nx.mk ?_) | refine zH ?_ | refine Nx.mk ?_); conv => whnf))
      (all_goals try first | contradiction | (exfalso; omega))
      all_goals
        refine ⟨i + 1, by omega, by omega, ?_⟩
        ((try conv => whnf); refine ⟨rfl, by rfl, ?_, ?_⟩ <;> ((repeat' ((try conv => whnf); (first|exact zU|refine And.intro ?_ ?_|exact fun _ _ _ _ => Eq.refl _|refine cellJ (fun _ _ => ?_)|(refine cellB ?_; (conv => whnf); refine And.intro ?_ ?_)|exact zV|fail))) <;> (try conv => whnf)))
        all_goals first
          | (rw [hA, if_pos (by omega)]; rfl)
          | (rw [hA, if_neg (by omega)]; done)
          | (rename_i x hx
             have hx : x < R.length := hx
             by_cases e1 : x = i
             · simp only [e1, Nat.beq_refl, Bool.and_true, Bool.true_and, cond_true, Ct.cell, cellsA, hnew]
               ((repeat' ((try conv => whnf); (first|exact zU|refine And.intro ?_ ?_|exact fun _ _ _ _ => Eq.refl _|refine cellJ (fun _ _ => ?_)|(refine cellB ?_; (conv => whnf); refine And.intro ?_ ?_)|exact zV|fail))) <;> (try conv => whnf))
             · simp only [beq_ne e1, Bool.and_false, Bool.false_and, cond_false, Ct.kill, Ct.cell, cellsA, hne x hx e1]
               ((repeat' ((try conv => whnf); (first|exact zU|refine And.intro ?_ ?_|exact fun _ _ _ _ => Eq.refl _|refine cellJ (fun _ _ => ?_)|(refine cellB ?_; (conv => whnf); refine And.intro ?_ ?_)|exact zV|fail))) <;> (try conv => whnf)))
          | trace_state
  · obtain rfl : i = R.length := by omega
    have hAl := insA_le (R := R) (e := e) (qx := qx) (i := R.length)
    have ci := insert_fn (midR R e qx R.length) e (LA.insA R e qx R.length) (by rw [midR_len]; exact hAl) (by rw [midR_len]; omega)
    simp only [insS, midR_len, hit] at ci
    generalize LA.insW R e qx = RR at *
    generalize LA.insA R e qx R.length = at_ at *
    (repeat' first  | (refine zK (fun hs => ?_) (fun hs => ?_) <;> ((try simp only [Ct.len] at hs); revert hs; intro _; conv => whnf)) | (refine zI (fun _ => ?_) (fun _ => ?_)<;> conv => whnf)|((first|refine zA ?_|refine zB ?_|refine zC ?_|refine zD ?_|refine zE ?_|refine zF ?_|refine zG ?_|fail); conv => whnf)|(refine zJ (fun _ => ?_) ?_<;> conv => whnf)|((first | refine condN Tryz.underlying4 (Nx.mk ?_) | refine zH ?_ | refine Nx.mk ?_); conv => whnf))
    (all_goals try first | contradiction | (exfalso; omega))
    refine ⟨_, [rt 1, rt (nm 62), rt (nm 26)], _, _, _, _, ci, rfl, ?_, ?_, Nx.mk ?_⟩
    · ((repeat' ((try conv => whnf); (first|exact zU|refine And.intro ?_ ?_|exact fun _ _ _ _ => Eq.refl _|refine cellJ (fun _ _ => ?_)|(refine cellB ?_; (conv => whnf); refine And.intro ?_ ?_)|exact zV|fail))) <;> (try conv => whnf))
      all_goals
        rename_i a ha
        have ha : a < 1 := ha
        obtain rfl : a = 0 := by omega
        ((repeat' ((try conv => whnf); (first|exact zU|refine And.intro ?_ ?_|exact fun _ _ _ _ => Eq.refl _|refine cellJ (fun _ _ => ?_)|(refine cellB ?_; (conv => whnf); refine And.intro ?_ ?_)|exact zV|fail))) <;> (try conv => whnf))
    · ((repeat' ((try conv => whnf); (first|exact zU|refine And.intro ?_ ?_|exact fun _ _ _ _ => Eq.refl _|refine cellJ (fun _ _ => ?_)|(refine cellB ?_; (conv => whnf); refine And.intro ?_ ?_)|exact zV|fail))) <;> (try conv => whnf))
    conv => whnf
    (repeat' first  | (refine zK (fun hs => ?_) (fun hs => ?_) <;> ((try simp only [Ct.len] at hs); revert hs; intro _; conv => whnf)) | (refine zI (fun _ => ?_) (fun _ => ?_)<;> conv => whnf)|((first|refine zA ?_|refine zB ?_|refine zC ?_|refine zD ?_|refine zE ?_|refine zF ?_|refine zG ?_|fail); conv => whnf)|(refine zJ (fun _ => ?_) ?_<;> conv => whnf)|((first | refine condN Tryz.underlying4 (Nx.mk ?_) | refine zH ?_ | refine Nx.mk ?_); conv => whnf))
    refine ⟨[(16, nm 63)], rfl, ?_, ?_, ?_, fun _ => ?_⟩
    · ((try conv => whnf); refine ⟨rfl, by rfl, ?_, ?_⟩ <;> ((repeat' ((try conv => whnf); (first|exact zU|refine And.intro ?_ ?_|exact fun _ _ _ _ => Eq.refl _|refine cellJ (fun _ _ => ?_)|(refine cellB ?_; (conv => whnf); refine And.intro ?_ ?_)|exact zV|fail))) <;> (try conv => whnf)))
      all_goals trace_state
    all_goals ((repeat' ((try conv => whnf); (first|exact zU|refine And.intro ?_ ?_|exact fun _ _ _ _ => Eq.refl _|refine cellJ (fun _ _ => ?_)|(refine cellB ?_; (conv => whnf); refine And.intro ?_ ?_)|exact zV|fail))) <;> (try conv => whnf))
end Go.Proofs.YtbepgedckfhifaaGreat
