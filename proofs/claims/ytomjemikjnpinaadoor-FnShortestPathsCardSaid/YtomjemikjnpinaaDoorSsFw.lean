/-
  Search in breadth, of the program: shortestPath.
-/
import Derived.Test.YtomjemikjnpinaaDoorSsFr
import Derived.Test.YtomjemikjnpinaaDoorSsFv
import Derived.Test.YtomjemikjnpinaaDoorSsFo
namespace Go.Proofs.YtomjemikjnpinaaDoor
set_option linter.unusedVariables false
set_option linter.unusedSimpArgs false
set_option maxRecDepth 100000
set_option maxHeartbeats 4000000
attribute [local irreducible] Fn
theorem bfs_add {g : Gr} {us : Nat → Bool} {a : Int} {m : Pairs} {j : Nat} (h1 : (eAt g j).1 = a) (h2 : us j = true) (h3 : ¬ mhas (addAll m (bfsL g us a (idxs (fromB a) g.2.1 j))) (eAt g j).2.1 = true) :
    addAll m (bfsL g us a (idxs (fromB a) g.2.1 (j + 1))) = addAll m (bfsL g us a (idxs (fromB a) g.2.1 j)) ++ [((eAt g j).2.1, a)] := by
  have e : idxs (fromB a) g.2.1 (j + 1) = idxs (fromB a) g.2.1 j ++ [(j : Int)] := if_pos (decide_eq_true h1)
  have e2 : bfsL g us a (idxs (fromB a) g.2.1 (j + 1)) = bfsL g us a (idxs (fromB a) g.2.1 j) ++ [((eAt g j).2.1, a)] := by
    rw [e]; unfold bfsL; rw [List.flatMap_append]
    have : ((j : Int)).toNat = j := rfl
    simp only [List.flatMap_cons, List.flatMap_nil, this, if_pos h2, List.append_nil]
  rw [e2, addAll_app, addC_new h3]
theorem bfs_skip {g : Gr} {us : Nat → Bool} {a : Int} {m : Pairs} {j : Nat} (h : ¬ (eAt g j).1 = a ∨ us j = false ∨ mhas (addAll m (bfsL g us a (idxs (fromB a) g.2.1 j))) (eAt g j).2.1 = true) :
    addAll m (bfsL g us a (idxs (fromB a) g.2.1 (j + 1))) = addAll m (bfsL g us a (idxs (fromB a) g.2.1 j)) := by
  by_cases h1 : (eAt g j).1 = a
  · have e : idxs (fromB a) g.2.1 (j + 1) = idxs (fromB a) g.2.1 j ++ [(j : Int)] := if_pos (decide_eq_true h1)
    have ej : ((j : Int)).toNat = j := rfl
    by_cases h2 : us j = true
    · have e2 : bfsL g us a (idxs (fromB a) g.2.1 (j + 1)) = bfsL g us a (idxs (fromB a) g.2.1 j) ++ [((eAt g j).2.1, a)] := by
        rw [e]; unfold bfsL; rw [List.flatMap_append]
        simp only [List.flatMap_cons, List.flatMap_nil, ej, if_pos h2, List.append_nil]
      rw [e2, addAll_app, addC_old]
      rcases h with h | h | h
      · exact absurd h1 h
      · rw [h2] at h; cases h
      · exact h
    · have e2 : bfsL g us a (idxs (fromB a) g.2.1 (j + 1)) = bfsL g us a (idxs (fromB a) g.2.1 j) := by
        rw [e]; unfold bfsL; rw [List.flatMap_append]
        simp only [List.flatMap_cons, List.flatMap_nil, ej, if_neg h2, List.append_nil]
      rw [e2]
  · have e : idxs (fromB a) g.2.1 (j + 1) = idxs (fromB a) g.2.1 j := if_neg (fun hc => h1 (of_decide_eq_true hc))
    rw [e]
theorem bfs_zero {g : Gr} {us : Nat → Bool} {a : Int} : bfsL g us a (idxs (fromB a) g.2.1 0) = [] := rfl
theorem bfsC_eq {g : Gr} {us : Nat → Bool} {a : Int} : bfsC g us a = bfsL g us a (idxs (fromB a) g.2.1 g.2.1.length) := rfl
theorem bfsL_in {g : Gr} {us : Nat → Bool} {a : Int} {j : Nat} (hj : j ≤ g.2.1.length) : ∀ p ∈ bfsL g us a (idxs (fromB a) g.2.1 j), p ∈ bfsC g us a := by
  intro p hp
  obtain ⟨x, h1, h2⟩ := List.mem_flatMap.1 hp
  obtain ⟨i, h3, h4, h5⟩ := idxs_mem.1 h1
  exact List.mem_flatMap.2 ⟨x, idxs_mem.2 ⟨i, by omega, h4, h5⟩, h2⟩
theorem bfsM_eq {g : Gr} {us : Nat → Bool} {s : Int} : bfsM g us s = srM (bfsC g us) (s, s) := rfl
theorem bfsM_inv {g : Gr} {us : Nat → Bool} {s : Int} (hv : ValidG g) (h0 : 0 ≤ s) (h1 : s < g.1) : SrI (bfsC g us) (s, s) g.1 (bfsM g us s) := sr_inv ⟨h0, h1⟩ (bfsC_rng hv)
theorem drop_getD {xs : List Int} {k i : Nat} : (xs.drop k).getD i 0 = xs.getD (k + i) 0 := by
  simp [List.getD_eq_getElem?_getD]
theorem drop_app {xs : List Int} {k : Nat} {x : Int} (h : k ≤ xs.length) : (xs ++ [x]).drop k = xs.drop k ++ [x] := by
  rw [List.drop_append_of_le_length h]
theorem chain_step {m : Pairs} {s a : Int} {f : Nat} (h : a ≠ s) : chain m s (f + 1) a = a :: chain m s f (mgetI m a) := if_neg h
theorem spF_yes {g : Gr} {us : Nat → Bool} {s t : Int} (h : mhas (bfsM g us s) t = true) : spF g us s t = (chain (bfsM g us s) s 8 t).reverse := if_pos h
theorem spF_no {g : Gr} {us : Nat → Bool} {s t : Int} (h : mhas (bfsM g us s) t = false) : spF g us s t = [] := if_neg (by simp [h])
attribute [local irreducible] addAll bfsL idxs sr mset mhas mgetI keys bfsM chain spF
theorem iSp_fn (g : Gr) (s t : Int) (hv : ValidG g) (h0 : 0 ≤ s) (h1 : s < g.1) (ht0 : 0 ≤ t) (ht1 : t < g.1) (us : Nat → Bool) (hu : ∀ i : Nat, i < g.2.1.length → Fn Tryd.prog 24 true (.cons (.I i) .nil) [] (.b (us i)) []) : Fn Tryd.prog 23 true (.cons (GrA g) (.cons (.I s) (.cons (.I t) (.cons (.fn 24 .nil) .nil)))) [] (.tup (.cons (.agg (.cons (.os (rt 16)) .nil)) (.cons (.b (mhas (bfsM g us s) t)) .nil))) [(16, .row 3 (.ints .i64 (spF g us s t)))] := by
  have hlen := hv.len
  have hg1 := hv.lo
  have hg2 := hv.hi
  (refine Fn_of tysOk Tryd.func23 rfl rfl (by simp [AV.len, Tryd.f23]) ⟨?_⟩; conv => whnf)
  (repeat' first | (refine splitD (fun hs => Nx.mk ?_) (fun hs => Nx.mk ?_) <;> ((try simp only [Ct.len] at hs); revert hs; intro _; conv => whnf)) | (refine splitB (fun _ => Nx.mk ?_) (fun _ => Nx.mk ?_) <;> conv => whnf) | (refine idxNat (by (first | exact trivial | assumption | omega | (simp only [inK, lenR] at *; omega) | (simp; done) | fail)) (Nx.mk ?_); conv => whnf) | (refine idxPred (by omega) (by (first | exact trivial | assumption | omega | (simp only [inK, lenR] at *; omega) | (simp; done) | fail)) (Nx.mk ?_); conv => whnf) | (refine idxSucc (by (first | exact trivial | assumption | omega | (simp only [inK, lenR] at *; omega) | (simp; done) | fail)) (Nx.mk ?_); conv => whnf) | (refine idxTo (by omega) (by (first | exact trivial | assumption | omega | (simp only [inK, lenR] at *; omega) | (simp; done) | fail)) (Nx.mk ?_); conv => whnf) | (refine mkNat (by omega) (by omega) (Nx.mk ?_); conv => whnf) | (refine ar64 (by omega) (Nx.mk ?_); conv => whnf) | (refine ar_in (by (first | exact trivial | assumption | omega | (simp only [inK, lenR] at *; omega) | (simp; done) | fail)) (Nx.mk ?_); conv => whnf) | (refine nilQ (fun _ => Nx.mk ?_) (Nx.mk ?_) <;> conv => whnf) | (refine condN Tryd.underlying4 (Nx.mk ?_); conv => whnf) | (refine condN (by (first | exact trivial | assumption | omega | (simp only [inK, lenR] at *; omega) | (simp; done) | fail)) (Nx.mk ?_); conv => whnf) | (refine Nx.mk ?_; conv => whnf))
  refine loopI tysOk [nm 25] (fun k : Nat => [(11, .os (rt (nm 25)))]) (fun k => [(nm 20, some (.mp 68 (.ints .i64 (sr (bfsC g us) (s, s) k)))), (nm 25, some (.row 3 (.ints .i64 ((keys (sr (bfsC g us) (s, s) k)).drop k))))]) (fun k => k ≤ (sr (bfsC g us) (s, s) k).length) (fun k => 8 - k) 0 (Nat.zero_le _) ?_ ?_
  · ((try conv => whnf); refine ⟨rfl, by rfl, ?_, ?_⟩ <;> ((repeat' ((try conv => whnf); (first | exact trivial | exact Eq.refl _ | exact Or.inl (Eq.refl _) | refine And.intro ?_ ?_ | exact fun _ _ _ _ => Eq.refl _ | refine cellJ (fun _ _ => ?_) | (refine cellB ?_; (conv => whnf); refine And.intro ?_ ?_) | exact Nat.le_of_ble_eq_true (Eq.refl true) | exact ⟨_, _, Eq.refl _, Eq.refl _⟩ | fail))) <;> (try conv => whnf)))
    · rw [sr_zero, mset_nil]
    · rw [sr_zero, keys_one]; rfl
  · intro k hk
    have hI := sr_inv (C := bfsC g us) (r := (s, s)) ⟨h0, h1⟩ (bfsC_rng hv) (k := k)
    have hL := hI.len
    have hkl := keys_len (sr (bfsC g us) (s, s) k)
    have hdl : ((keys (sr (bfsC g us) (s, s) k)).drop k).length = (sr (bfsC g us) (s, s) k).length - k := by rw [List.length_drop, hkl]
    (repeat' first | (refine splitD (fun hs => Nx.mk ?_) (fun hs => Nx.mk ?_) <;> ((try simp only [Ct.len] at hs); revert hs; intro _; conv => whnf)) | (refine splitB (fun _ => Nx.mk ?_) (fun _ => Nx.mk ?_) <;> conv => whnf) | (refine idxNat (by (first | exact trivial | assumption | omega | (simp only [inK, lenR] at *; omega) | (simp; done) | fail)) (Nx.mk ?_); conv => whnf) | (refine idxPred (by omega) (by (first | exact trivial | assumption | omega | (simp only [inK, lenR] at *; omega) | (simp; done) | fail)) (Nx.mk ?_); conv => whnf) | (refine idxSucc (by (first | exact trivial | assumption | omega | (simp only [inK, lenR] at *; omega) | (simp; done) | fail)) (Nx.mk ?_); conv => whnf) | (refine idxTo (by omega) (by (first | exact trivial | assumption | omega | (simp only [inK, lenR] at *; omega) | (simp; done) | fail)) (Nx.mk ?_); conv => whnf) | (refine mkNat (by omega) (by omega) (Nx.mk ?_); conv => whnf) | (refine ar64 (by omega) (Nx.mk ?_); conv => whnf) | (refine ar_in (by (first | exact trivial | assumption | omega | (simp only [inK, lenR] at *; omega) | (simp; done) | fail)) (Nx.mk ?_); conv => whnf) | (refine nilQ (fun _ => Nx.mk ?_) (Nx.mk ?_) <;> conv => whnf) | (refine condN Tryd.underlying4 (Nx.mk ?_); conv => whnf) | (refine condN (by (first | exact trivial | assumption | omega | (simp only [inK, lenR] at *; omega) | (simp; done) | fail)) (Nx.mk ?_); conv => whnf) | (refine Nx.mk ?_; conv => whnf))
    · have hk' : k < (sr (bfsC g us) (s, s) k).length := by simp only [lenR] at *; omega
      have ha : (keys (sr (bfsC g us) (s, s) k)).getD k 0 = ((sr (bfsC g us) (s, s) k).getD k default).1 := keys_getD hk'
      generalize hA : (keys (sr (bfsC g us) (s, s) k)).getD k 0 = a at *
      refine loopI tysOk [nm 25] (fun j : Nat => [(34, .I j), (11, .os (rt (nm 25)))]) (fun j => [(nm 20, some (.mp 68 (.ints .i64 (addAll (sr (bfsC g us) (s, s) k) (bfsL g us a (idxs (fromB a) g.2.1 j)))))), (nm 25, some (.row 3 (.ints .i64 ((keys (addAll (sr (bfsC g us) (s, s) k) (bfsL g us a (idxs (fromB a) g.2.1 j)))).drop k))))]) (fun j => j ≤ g.2.1.length) (fun j => g.2.1.length - j) 0 (Nat.zero_le _) ?_ ?_
      · ((try conv => whnf); refine ⟨rfl, by rfl, ?_, ?_⟩ <;> ((repeat' ((try conv => whnf); (first | exact trivial | exact Eq.refl _ | exact Or.inl (Eq.refl _) | refine And.intro ?_ ?_ | exact fun _ _ _ _ => Eq.refl _ | refine cellJ (fun _ _ => ?_) | (refine cellB ?_; (conv => whnf); refine And.intro ?_ ?_) | exact Nat.le_of_ble_eq_true (Eq.refl true) | exact ⟨_, _, Eq.refl _, Eq.refl _⟩ | fail))) <;> (try conv => whnf)))
        · rw [bfs_zero, addAll_nil]
        · rw [bfs_zero, addAll_nil]
      · intro j hj
        have hx1 := addAll_ext (l := bfsL g us a (idxs (fromB a) g.2.1 j)) hk'
        have hI1 := addAll_inv (l := bfsL g us a (idxs (fromB a) g.2.1 j)) hI hk' ha.symm (fun p hp => ⟨bfsL_in hj p hp, bfsC_rng hv _ p (bfsL_in hj p hp)⟩)
        have hL1 := hI1.len
        have hkl1 := keys_len (addAll (sr (bfsC g us) (s, s) k) (bfsL g us a (idxs (fromB a) g.2.1 j)))
        have hdl1 : ((keys (addAll (sr (bfsC g us) (s, s) k) (bfsL g us a (idxs (fromB a) g.2.1 j)))).drop k).length = (addAll (sr (bfsC g us) (s, s) k) (bfsL g us a (idxs (fromB a) g.2.1 j))).length - k := by rw [List.length_drop, hkl1]
        have hq : ((keys (addAll (sr (bfsC g us) (s, s) k) (bfsL g us a (idxs (fromB a) g.2.1 j)))).drop k).getD 0 0 = a := by
          rw [drop_getD, Nat.add_zero, keys_getD (by omega), hx1.2]; exact ha.symm
        have cu := hu j
        (repeat' first | (refine splitD (fun hs => Nx.mk ?_) (fun hs => Nx.mk ?_) <;> ((try simp only [Ct.len] at hs); revert hs; intro _; conv => whnf)) | (refine splitB (fun _ => Nx.mk ?_) (fun _ => Nx.mk ?_) <;> conv => whnf) | (refine idxNat (by (first | exact trivial | assumption | omega | (simp only [inK, lenR] at *; omega) | (simp; done) | fail)) (Nx.mk ?_); conv => whnf) | (refine idxPred (by omega) (by (first | exact trivial | assumption | omega | (simp only [inK, lenR] at *; omega) | (simp; done) | fail)) (Nx.mk ?_); conv => whnf) | (refine idxSucc (by (first | exact trivial | assumption | omega | (simp only [inK, lenR] at *; omega) | (simp; done) | fail)) (Nx.mk ?_); conv => whnf) | (refine idxTo (by omega) (by (first | exact trivial | assumption | omega | (simp only [inK, lenR] at *; omega) | (simp; done) | fail)) (Nx.mk ?_); conv => whnf) | (refine mkNat (by omega) (by omega) (Nx.mk ?_); conv => whnf) | (refine ar64 (by omega) (Nx.mk ?_); conv => whnf) | (refine ar_in (by (first | exact trivial | assumption | omega | (simp only [inK, lenR] at *; omega) | (simp; done) | fail)) (Nx.mk ?_); conv => whnf) | (refine nilQ (fun _ => Nx.mk ?_) (Nx.mk ?_) <;> conv => whnf) | (refine condN Tryd.underlying4 (Nx.mk ?_); conv => whnf) | (refine condN (by (first | exact trivial | assumption | omega | (simp only [inK, lenR] at *; omega) | (simp; done) | fail)) (Nx.mk ?_); conv => whnf) | (refine Nx.mk ?_; conv => whnf))
        · (refine VC_draw (sf := []) tysOk (by kernel_rfl) (by kernel_rfl) (Nx.mk ?_); conv => whnf)
          (repeat' first | ((with_reducible show ∃ _ : Bool, _); first | (refine ⟨_, [], _, [], _, _, cu (by omega), rfl, trivial, ?_, Nx.mk ?_⟩; (focus (((repeat' ((try conv => whnf); (first | exact trivial | exact Eq.refl _ | exact Or.inl (Eq.refl _) | refine And.intro ?_ ?_ | exact fun _ _ _ _ => Eq.refl _ | refine cellJ (fun _ _ => ?_) | (refine cellB ?_; (conv => whnf); refine And.intro ?_ ?_) | exact Nat.le_of_ble_eq_true (Eq.refl true) | exact ⟨_, _, Eq.refl _, Eq.refl _⟩ | fail))) <;> (try conv => whnf)); done)); conv => whnf))  | (refine splitD (fun hs => Nx.mk ?_) (fun hs => Nx.mk ?_) <;> ((try simp only [Ct.len] at hs); revert hs; intro _; conv => whnf)) | (refine splitB (fun _ => Nx.mk ?_) (fun _ => Nx.mk ?_) <;> conv => whnf) | (refine idxNat (by (first | exact trivial | assumption | omega | (simp only [inK, lenR] at *; omega) | (simp; done) | fail)) (Nx.mk ?_); conv => whnf) | (refine idxPred (by omega) (by (first | exact trivial | assumption | omega | (simp only [inK, lenR] at *; omega) | (simp; done) | fail)) (Nx.mk ?_); conv => whnf) | (refine idxSucc (by (first | exact trivial | assumption | omega | (simp only [inK, lenR] at *; omega) | (simp; done) | fail)) (Nx.mk ?_); conv => whnf) | (refine idxTo (by omega) (by (first | exact trivial | assumption | omega | (simp only [inK, lenR] at *; omega) | (simp; done) | fail)) (Nx.mk ?_); conv => whnf) | (refine mkNat (by omega) (by omega) (Nx.mk ?_); conv => whnf) | (refine ar64 (by omega) (Nx.mk ?_); conv => whnf) | (refine ar_in (by (first | exact trivial | assumption | omega | (simp only [inK, lenR] at *; omega) | (simp; done) | fail)) (Nx.mk ?_); conv => whnf) | (refine nilQ (fun _ => Nx.mk ?_) (Nx.mk ?_) <;> conv => whnf) | (refine condN Tryd.underlying4 (Nx.mk ?_); conv => whnf) | (refine condN (by (first | exact trivial | assumption | omega | (simp only [inK, lenR] at *; omega) | (simp; done) | fail)) (Nx.mk ?_); conv => whnf) | (refine Nx.mk ?_; conv => whnf))
          all_goals
            have e9 := bfs_skip (g := g) (us := us) (a := a) (m := (sr (bfsC g us) (s, s) k)) (j := j) (.inr (.inr (by assumption)))
            refine ⟨j + 1, by omega, by omega, ?_⟩
            ((try conv => whnf); refine ⟨rfl, by rfl, ?_, ?_⟩ <;> ((repeat' ((try conv => whnf); (first | exact trivial | exact Eq.refl _ | exact Or.inl (Eq.refl _) | refine And.intro ?_ ?_ | exact fun _ _ _ _ => Eq.refl _ | refine cellJ (fun _ _ => ?_) | (refine cellB ?_; (conv => whnf); refine And.intro ?_ ?_) | exact Nat.le_of_ble_eq_true (Eq.refl true) | exact ⟨_, _, Eq.refl _, Eq.refl _⟩ | fail))) <;> (try conv => whnf)))
            · rw [e9]
            · rw [e9]
        · rename_i hjl hseen
          (refine VC_draw (sf := []) tysOk (by kernel_rfl) (by kernel_rfl) (Nx.mk ?_); conv => whnf)
          (repeat' first | ((with_reducible show ∃ _ : Bool, _); first | (refine ⟨_, [], _, [], _, _, cu (by omega), rfl, trivial, ?_, Nx.mk ?_⟩; (focus (((repeat' ((try conv => whnf); (first | exact trivial | exact Eq.refl _ | exact Or.inl (Eq.refl _) | refine And.intro ?_ ?_ | exact fun _ _ _ _ => Eq.refl _ | refine cellJ (fun _ _ => ?_) | (refine cellB ?_; (conv => whnf); refine And.intro ?_ ?_) | exact Nat.le_of_ble_eq_true (Eq.refl true) | exact ⟨_, _, Eq.refl _, Eq.refl _⟩ | fail))) <;> (try conv => whnf)); done)); conv => whnf))  | (refine splitD (fun hs => Nx.mk ?_) (fun hs => Nx.mk ?_) <;> ((try simp only [Ct.len] at hs); revert hs; intro _; conv => whnf)) | (refine splitB (fun _ => Nx.mk ?_) (fun _ => Nx.mk ?_) <;> conv => whnf) | (refine idxNat (by (first | exact trivial | assumption | omega | (simp only [inK, lenR] at *; omega) | (simp; done) | fail)) (Nx.mk ?_); conv => whnf) | (refine idxPred (by omega) (by (first | exact trivial | assumption | omega | (simp only [inK, lenR] at *; omega) | (simp; done) | fail)) (Nx.mk ?_); conv => whnf) | (refine idxSucc (by (first | exact trivial | assumption | omega | (simp only [inK, lenR] at *; omega) | (simp; done) | fail)) (Nx.mk ?_); conv => whnf) | (refine idxTo (by omega) (by (first | exact trivial | assumption | omega | (simp only [inK, lenR] at *; omega) | (simp; done) | fail)) (Nx.mk ?_); conv => whnf) | (refine mkNat (by omega) (by omega) (Nx.mk ?_); conv => whnf) | (refine ar64 (by omega) (Nx.mk ?_); conv => whnf) | (refine ar_in (by (first | exact trivial | assumption | omega | (simp only [inK, lenR] at *; omega) | (simp; done) | fail)) (Nx.mk ?_); conv => whnf) | (refine nilQ (fun _ => Nx.mk ?_) (Nx.mk ?_) <;> conv => whnf) | (refine condN Tryd.underlying4 (Nx.mk ?_); conv => whnf) | (refine condN (by (first | exact trivial | assumption | omega | (simp only [inK, lenR] at *; omega) | (simp; done) | fail)) (Nx.mk ?_); conv => whnf) | (refine Nx.mk ?_; conv => whnf))
          all_goals first
            | (rename_i he hu1
               have he' : (eAt g j).1 = a := by rw [hq] at he; exact he
               have e9 := bfs_add (g := g) (us := us) (a := a) (m := (sr (bfsC g us) (s, s) k)) (j := j) he' hu1 (ntb hseen)
               refine ⟨j + 1, by omega, by omega, ?_⟩
               ((try conv => whnf); refine ⟨rfl, by rfl, ?_, ?_⟩ <;> ((repeat' ((try conv => whnf); (first | exact trivial | exact Eq.refl _ | exact Or.inl (Eq.refl _) | refine And.intro ?_ ?_ | exact fun _ _ _ _ => Eq.refl _ | refine cellJ (fun _ _ => ?_) | (refine cellB ?_; (conv => whnf); refine And.intro ?_ ?_) | exact Nat.le_of_ble_eq_true (Eq.refl true) | exact ⟨_, _, Eq.refl _, Eq.refl _⟩ | fail))) <;> (try conv => whnf)))
               · rw [e9]
                 have he2 : (g.2.1.getD j default).1 = a := he'
                 rw [he2]
                 exact mset_new (ntb hseen)
               · rw [e9, keys_app, drop_app (by omega)])
            | (have e9 := bfs_skip (g := g) (us := us) (a := a) (m := (sr (bfsC g us) (s, s) k)) (j := j) (by first | exact .inr (.inl (by assumption)) | exact .inl (fun h => by rename_i hne; exact hne (h.trans hq.symm)))
               refine ⟨j + 1, by omega, by omega, ?_⟩
               ((try conv => whnf); refine ⟨rfl, by rfl, ?_, ?_⟩ <;> ((repeat' ((try conv => whnf); (first | exact trivial | exact Eq.refl _ | exact Or.inl (Eq.refl _) | refine And.intro ?_ ?_ | exact fun _ _ _ _ => Eq.refl _ | refine cellJ (fun _ _ => ?_) | (refine cellB ?_; (conv => whnf); refine And.intro ?_ ?_) | exact Nat.le_of_ble_eq_true (Eq.refl true) | exact ⟨_, _, Eq.refl _, Eq.refl _⟩ | fail))) <;> (try conv => whnf)))
               · rw [e9]
               · rw [e9])
        · have e : j = g.2.1.length := by omega
          subst e
          have e9 : sr (bfsC g us) (s, s) (k + 1) = addAll (sr (bfsC g us) (s, s) k) (bfsL g us a (idxs (fromB a) g.2.1 g.2.1.length)) := by
            rw [sr_succ hk', ← ha, bfsC_eq]
          refine ⟨k + 1, by rw [e9]; omega, by omega, ?_⟩
          ((try conv => whnf); refine ⟨rfl, by rfl, ?_, ?_⟩ <;> ((repeat' ((try conv => whnf); (first | exact trivial | exact Eq.refl _ | exact Or.inl (Eq.refl _) | refine And.intro ?_ ?_ | exact fun _ _ _ _ => Eq.refl _ | refine cellJ (fun _ _ => ?_) | (refine cellB ?_; (conv => whnf); refine And.intro ?_ ?_) | exact Nat.le_of_ble_eq_true (Eq.refl true) | exact ⟨_, _, Eq.refl _, Eq.refl _⟩ | fail))) <;> (try conv => whnf)))
          · rw [e9]
          · rw [e9, List.drop_drop]; rfl
    · have hk2 : (sr (bfsC g us) (s, s) k).length ≤ k := by simp only [lenR] at *; omega
      have hM : sr (bfsC g us) (s, s) k = bfsM g us s := (srM_eq ⟨h0, h1⟩ (bfsC_rng hv) hg2 hk2).trans bfsM_eq.symm
      rename_i hend hgot
      rw [hM] at hgot ⊢
      have hIM := bfsM_inv (us := us) hv h0 h1
      obtain ⟨i0, hi0, et⟩ := has_at hgot
      have hLM := hIM.len
      refine loopI tysOk [nm 82] (fun i : Nat × List Int => [(19, .I ((bfsM g us s).getD i.1 default).1), (18, .os (rt (nm 82)))]) (fun i => [(nm 82, some (.row 3 (.ints .i64 (i.2 ++ [((bfsM g us s).getD i.1 default).1]))))]) (fun i => i.1 < (bfsM g us s).length ∧ ∃ n', i.1 ≤ n' ∧ chain (bfsM g us s) s 8 t = i.2 ++ chain (bfsM g us s) s n' ((bfsM g us s).getD i.1 default).1) (fun i => i.1) (i0, []) ⟨hi0, 8, by omega, by rw [et]; rfl⟩ ?_ ?_
      · ((try conv => whnf); refine ⟨rfl, by rfl, ?_, ?_⟩ <;> ((repeat' ((try conv => whnf); (first | exact trivial | exact Eq.refl _ | exact Or.inl (Eq.refl _) | refine And.intro ?_ ?_ | exact fun _ _ _ _ => Eq.refl _ | refine cellJ (fun _ _ => ?_) | (refine cellB ?_; (conv => whnf); refine And.intro ?_ ?_) | exact Nat.le_of_ble_eq_true (Eq.refl true) | exact ⟨_, _, Eq.refl _, Eq.refl _⟩ | fail))) <;> (try conv => whnf)))
        · exact et.symm
        · rw [et]; rfl
      · rintro ⟨i, pre⟩ ⟨hi, n', hn', hc⟩
        simp only at hi hn' hc
        dsimp only
        have hcl := chain_len (m := bfsM g us s) (s := s) (f := 8) (a := t)
        rw [hc, List.length_append] at hcl
        (repeat' first | (refine splitD (fun hs => Nx.mk ?_) (fun hs => Nx.mk ?_) <;> ((try simp only [Ct.len] at hs); revert hs; intro _; conv => whnf)) | (refine splitB (fun _ => Nx.mk ?_) (fun _ => Nx.mk ?_) <;> conv => whnf) | (refine idxNat (by (first | exact trivial | assumption | omega | (simp only [inK, lenR] at *; omega) | (simp; done) | fail)) (Nx.mk ?_); conv => whnf) | (refine idxPred (by omega) (by (first | exact trivial | assumption | omega | (simp only [inK, lenR] at *; omega) | (simp; done) | fail)) (Nx.mk ?_); conv => whnf) | (refine idxSucc (by (first | exact trivial | assumption | omega | (simp only [inK, lenR] at *; omega) | (simp; done) | fail)) (Nx.mk ?_); conv => whnf) | (refine idxTo (by omega) (by (first | exact trivial | assumption | omega | (simp only [inK, lenR] at *; omega) | (simp; done) | fail)) (Nx.mk ?_); conv => whnf) | (refine mkNat (by omega) (by omega) (Nx.mk ?_); conv => whnf) | (refine ar64 (by omega) (Nx.mk ?_); conv => whnf) | (refine ar_in (by (first | exact trivial | assumption | omega | (simp only [inK, lenR] at *; omega) | (simp; done) | fail)) (Nx.mk ?_); conv => whnf) | (refine nilQ (fun _ => Nx.mk ?_) (Nx.mk ?_) <;> conv => whnf) | (refine condN Tryd.underlying4 (Nx.mk ?_); conv => whnf) | (refine condN (by (first | exact trivial | assumption | omega | (simp only [inK, lenR] at *; omega) | (simp; done) | fail)) (Nx.mk ?_); conv => whnf) | (refine Nx.mk ?_; conv => whnf))
        · rename_i hne
          obtain ⟨j, k', hj, hg, _⟩ := bfs_up hIM hi hne
          obtain ⟨n1, rfl⟩ : ∃ n1, n' = n1 + 1 := ⟨n' - 1, by omega⟩
          rw [chain_step hne, hg] at hc
          refine ⟨(j, pre ++ [((bfsM g us s).getD i default).1]), ⟨by simp only; omega, n1, by simp only; omega, by simp only; rw [hc]; simp⟩, hj, ?_⟩
          ((try conv => whnf); refine ⟨rfl, by rfl, ?_, ?_⟩ <;> ((repeat' ((try conv => whnf); (first | exact trivial | exact Eq.refl _ | exact Or.inl (Eq.refl _) | refine And.intro ?_ ?_ | exact fun _ _ _ _ => Eq.refl _ | refine cellJ (fun _ _ => ?_) | (refine cellB ?_; (conv => whnf); refine And.intro ?_ ?_) | exact Nat.le_of_ble_eq_true (Eq.refl true) | exact ⟨_, _, Eq.refl _, Eq.refl _⟩ | fail))) <;> (try conv => whnf)))
          · exact hg
          · rw [hg]
        · rename_i hs
          have hs' : ((bfsM g us s).getD i default).1 = s := Classical.not_not.1 hs
          rw [hs', chain_at] at hc
          have hsp : spF g us s t = (pre ++ [((bfsM g us s).getD i default).1]).reverse := by rw [spF_yes hgot, hc, hs']
          (repeat' first | ((with_reducible show ∃ _ : Bool, _); first | (refine ⟨_, [rt (nm 82)], _, _, _, _, reverse_fn (pre ++ [((bfsM g us s).getD i default).1]) (by simp; omega), rfl, ?_, ?_, Nx.mk ?_⟩; (focus (((repeat' ((try conv => whnf); (first | exact trivial | exact Eq.refl _ | exact Or.inl (Eq.refl _) | refine And.intro ?_ ?_ | exact fun _ _ _ _ => Eq.refl _ | refine cellJ (fun _ _ => ?_) | (refine cellB ?_; (conv => whnf); refine And.intro ?_ ?_) | exact Nat.le_of_ble_eq_true (Eq.refl true) | exact ⟨_, _, Eq.refl _, Eq.refl _⟩ | fail))) <;> (try conv => whnf)); done)); (focus (((repeat' ((try conv => whnf); (first | exact trivial | exact Eq.refl _ | exact Or.inl (Eq.refl _) | refine And.intro ?_ ?_ | exact fun _ _ _ _ => Eq.refl _ | refine cellJ (fun _ _ => ?_) | (refine cellB ?_; (conv => whnf); refine And.intro ?_ ?_) | exact Nat.le_of_ble_eq_true (Eq.refl true) | exact ⟨_, _, Eq.refl _, Eq.refl _⟩ | fail))) <;> (try conv => whnf)); done)); conv => whnf))  | (refine splitD (fun hs => Nx.mk ?_) (fun hs => Nx.mk ?_) <;> ((try simp only [Ct.len] at hs); revert hs; intro _; conv => whnf)) | (refine splitB (fun _ => Nx.mk ?_) (fun _ => Nx.mk ?_) <;> conv => whnf) | (refine idxNat (by (first | exact trivial | assumption | omega | (simp only [inK, lenR] at *; omega) | (simp; done) | fail)) (Nx.mk ?_); conv => whnf) | (refine idxPred (by omega) (by (first | exact trivial | assumption | omega | (simp only [inK, lenR] at *; omega) | (simp; done) | fail)) (Nx.mk ?_); conv => whnf) | (refine idxSucc (by (first | exact trivial | assumption | omega | (simp only [inK, lenR] at *; omega) | (simp; done) | fail)) (Nx.mk ?_); conv => whnf) | (refine idxTo (by omega) (by (first | exact trivial | assumption | omega | (simp only [inK, lenR] at *; omega) | (simp; done) | fail)) (Nx.mk ?_); conv => whnf) | (refine mkNat (by omega) (by omega) (Nx.mk ?_); conv => whnf) | (refine ar64 (by omega) (Nx.mk ?_); conv => whnf) | (refine ar_in (by (first | exact trivial | assumption | omega | (simp only [inK, lenR] at *; omega) | (simp; done) | fail)) (Nx.mk ?_); conv => whnf) | (refine nilQ (fun _ => Nx.mk ?_) (Nx.mk ?_) <;> conv => whnf) | (refine condN Tryd.underlying4 (Nx.mk ?_); conv => whnf) | (refine condN (by (first | exact trivial | assumption | omega | (simp only [inK, lenR] at *; omega) | (simp; done) | fail)) (Nx.mk ?_); conv => whnf) | (refine Nx.mk ?_; conv => whnf))
          refine ⟨[(16, nm 82)], rfl, ?_, ?_, ?_, fun _ => ?_⟩
          · ((try conv => whnf); refine ⟨rfl, by rfl, ?_, ?_⟩ <;> ((repeat' ((try conv => whnf); (first | exact trivial | exact Eq.refl _ | exact Or.inl (Eq.refl _) | refine And.intro ?_ ?_ | exact fun _ _ _ _ => Eq.refl _ | refine cellJ (fun _ _ => ?_) | (refine cellB ?_; (conv => whnf); refine And.intro ?_ ?_) | exact Nat.le_of_ble_eq_true (Eq.refl true) | exact ⟨_, _, Eq.refl _, Eq.refl _⟩ | fail))) <;> (try conv => whnf)))
            exact hsp.symm
          · ((repeat' ((try conv => whnf); (first | exact trivial | exact Eq.refl _ | exact Or.inl (Eq.refl _) | refine And.intro ?_ ?_ | exact fun _ _ _ _ => Eq.refl _ | refine cellJ (fun _ _ => ?_) | (refine cellB ?_; (conv => whnf); refine And.intro ?_ ?_) | exact Nat.le_of_ble_eq_true (Eq.refl true) | exact ⟨_, _, Eq.refl _, Eq.refl _⟩ | fail))) <;> (try conv => whnf))
            exact hgot.symm
          all_goals ((repeat' ((try conv => whnf); (first | exact trivial | exact Eq.refl _ | exact Or.inl (Eq.refl _) | refine And.intro ?_ ?_ | exact fun _ _ _ _ => Eq.refl _ | refine cellJ (fun _ _ => ?_) | (refine cellB ?_; (conv => whnf); refine And.intro ?_ ?_) | exact Nat.le_of_ble_eq_true (Eq.refl true) | exact ⟨_, _, Eq.refl _, Eq.refl _⟩ | fail))) <;> (try conv => whnf))
    · have hk2 : (sr (bfsC g us) (s, s) k).length ≤ k := by simp only [lenR] at *; omega
      have hM : sr (bfsC g us) (s, s) k = bfsM g us s := (srM_eq ⟨h0, h1⟩ (bfsC_rng hv) hg2 hk2).trans bfsM_eq.symm
      rename_i hend hgot
      rw [hM] at hgot
      have hsp := spF_no hgot
      rw [hsp, hgot]
      refine ⟨[], rfl, ?_, ?_, ?_, fun _ => ?_⟩
      · ((try conv => whnf); refine ⟨rfl, by rfl, ?_, ?_⟩ <;> ((repeat' ((try conv => whnf); (first | exact trivial | exact Eq.refl _ | exact Or.inl (Eq.refl _) | refine And.intro ?_ ?_ | exact fun _ _ _ _ => Eq.refl _ | refine cellJ (fun _ _ => ?_) | (refine cellB ?_; (conv => whnf); refine And.intro ?_ ?_) | exact Nat.le_of_ble_eq_true (Eq.refl true) | exact ⟨_, _, Eq.refl _, Eq.refl _⟩ | fail))) <;> (try conv => whnf)))
      all_goals ((repeat' ((try conv => whnf); (first | exact trivial | exact Eq.refl _ | exact Or.inl (Eq.refl _) | refine And.intro ?_ ?_ | exact fun _ _ _ _ => Eq.refl _ | refine cellJ (fun _ _ => ?_) | (refine cellB ?_; (conv => whnf); refine And.intro ?_ ?_) | exact Nat.le_of_ble_eq_true (Eq.refl true) | exact ⟨_, _, Eq.refl _, Eq.refl _⟩ | fail))) <;> (try conv => whnf))
end Go.Proofs.YtomjemikjnpinaaDoor
