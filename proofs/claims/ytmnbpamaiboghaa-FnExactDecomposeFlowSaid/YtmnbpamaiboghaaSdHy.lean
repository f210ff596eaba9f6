/-
  A flow taken apart into paths: of both.
-/
import Derived.Test.YtmnbpamaiboghaaSdHw
import Derived.Test.YtmnbpamaiboghaaSdFj
import Derived.Test.YtmnbpamaiboghaaSdFp
import Derived.Test.YtmnbpamaiboghaaSdFh
namespace Go.Proofs.Ytmnbpamaiboghaa
set_option linter.unusedVariables false
set_option linter.unusedSimpArgs false
set_option maxRecDepth 100000
set_option maxHeartbeats 4000000
attribute [local irreducible] Fn
section
attribute [local irreducible] addAll bfsL idxs sr mset mhas mgetI keys bfsM chain spF
theorem iSpD_fn (lf : List Int) (g : Gr) (s t : Int) (hv : ValidG g) (h0 : 0 ≤ s) (h1 : s < g.1) (ht0 : 0 ≤ t) (ht1 : t < g.1) (us : Nat → Bool) (hu : ∀ i : Nat, i < g.2.1.length → Fn Try.prog 85 true (.cons (.I i) (.cons (.rp false 1 1 (fun _ _ => .ri false .i64 lf) 0 0) .nil)) [] (.b (us i)) []) : Fn Try.prog 84 true (.cons (GrA g) (.cons (.I s) (.cons (.I t) (.cons (.fn 85 (.cons (.rp false 1 1 (fun _ _ => .ri false .i64 lf) 0 0) .nil)) .nil)))) [] (.tup (.cons (.agg (.cons (.os (rt 16)) .nil)) (.cons (.b (mhas (bfsM g us s) t)) .nil))) [(16, .row 3 (.ints .i64 (spF g us s t)))] := by
  have hlen := hv.len
  have hg1 := hv.lo
  have hg2 := hv.hi
  (refine Fn_of tysOk Try.func84 rfl rfl (by simp [AV.len, Try.f84]) ⟨?_⟩; conv => whnf)
  (repeat' first | (refine splitD (fun hs => Nx.mk ?_) (fun hs => Nx.mk ?_) <;> ((try simp only [Ct.len] at hs); revert hs; intro _; conv => whnf)) | (refine splitB (fun _ => Nx.mk ?_) (fun _ => Nx.mk ?_) <;> conv => whnf) | (refine idxNat (by (first | exact trivial | assumption | omega | (simp only [inK, lenR] at *; omega) | (simp; done) | fail)) (Nx.mk ?_); conv => whnf) | (refine idxPred (by omega) (by (first | exact trivial | assumption | omega | (simp only [inK, lenR] at *; omega) | (simp; done) | fail)) (Nx.mk ?_); conv => whnf) | (refine idxSucc (by (first | exact trivial | assumption | omega | (simp only [inK, lenR] at *; omega) | (simp; done) | fail)) (Nx.mk ?_); conv => whnf) | (refine idxTo (by omega) (by (first | exact trivial | assumption | omega | (simp only [inK, lenR] at *; omega) | (simp; done) | fail)) (Nx.mk ?_); conv => whnf) | (refine mkNat (by omega) (by omega) (Nx.mk ?_); conv => whnf) | (refine ar64 (by omega) (Nx.mk ?_); conv => whnf) | (refine ar_in (by (first | exact trivial | assumption | omega | (simp only [inK, lenR] at *; omega) | (simp; done) | fail)) (Nx.mk ?_); conv => whnf) | (refine nilQ (fun _ => Nx.mk ?_) (Nx.mk ?_) <;> conv => whnf) | (refine condN Try.underlying4 (Nx.mk ?_); conv => whnf) | (refine condN (by (first | exact trivial | assumption | omega | (simp only [inK, lenR] at *; omega) | (simp; done) | fail)) (Nx.mk ?_); conv => whnf) | (refine Nx.mk ?_; conv => whnf))
  refine loopI tysOk [nm 25] (fun k : Nat => [(11, .os (rt (nm 25)))]) (fun k => [(nm 20, some (.mp 150 (.ints .i64 (sr (bfsC g us) (s, s) k)))), (nm 25, some (.row 3 (.ints .i64 ((keys (sr (bfsC g us) (s, s) k)).drop k))))]) (fun k => k ≤ (sr (bfsC g us) (s, s) k).length) (fun k => 8 - k) 0 (Nat.zero_le _) ?_ ?_
  · ((try conv => whnf); refine ⟨rfl, by rfl, ?_, ?_⟩ <;> ((repeat' ((try conv => whnf); (first | exact trivial | exact Eq.refl _ | exact Or.inl (Eq.refl _) | refine And.intro ?_ ?_ | exact fun _ _ _ _ => Eq.refl _ | refine cellJ (fun _ _ => ?_) | (refine cellB ?_; (conv => whnf); refine And.intro ?_ ?_) | exact Nat.le_of_ble_eq_true (Eq.refl true) | exact ⟨_, _, Eq.refl _, Eq.refl _⟩ | fail))) <;> (try conv => whnf)))
    · rw [sr_zero, mset_nil]
    · rw [sr_zero, keys_one]; rfl
  · intro k hk
    have hI := sr_inv (C := bfsC g us) (r := (s, s)) ⟨h0, h1⟩ (bfsC_rng hv) (k := k)
    have hL := hI.len
    have hkl := keys_len (sr (bfsC g us) (s, s) k)
    have hdl : ((keys (sr (bfsC g us) (s, s) k)).drop k).length = (sr (bfsC g us) (s, s) k).length - k := by rw [List.length_drop, hkl]
    (repeat' first | (refine splitD (fun hs => Nx.mk ?_) (fun hs => Nx.mk ?_) <;> ((try simp only [Ct.len] at hs); revert hs; intro _; conv => whnf)) | (refine splitB (fun _ => Nx.mk ?_) (fun _ => Nx.mk ?_) <;> conv => whnf) | (refine idxNat (by (first | exact trivial | assumption | omega | (simp only [inK, lenR] at *; omega) | (simp; done) | fail)) (Nx.mk ?_); conv => whnf) | (refine idxPred (by omega) (by (first | exact trivial | assumption | omega | (simp only [inK, lenR] at *; omega) | (simp; done) | fail)) (Nx.mk ?_); conv => whnf) | (refine idxSucc (by (first | exact trivial | assumption | omega | (simp only [inK, lenR] at *; omega) | (simp; done) | fail)) (Nx.mk ?_); conv => whnf) | (refine idxTo (by omega) (by (first | exact trivial | assumption | omega | (simp only [inK, lenR] at *; omega) | (simp; done) | fail)) (Nx.mk ?_); conv => whnf) | (refine mkNat (by omega) (by omega) (Nx.mk ?_); conv => whnf) | (refine ar64 (by omega) (Nx.mk ?_); conv => whnf) | (refine ar_in (by (first | exact trivial | assumption | omega | (simp only [inK, lenR] at *; omega) | (simp; done) | fail)) (Nx.mk ?_); conv => whnf) | (refine nilQ (fun _ => Nx.mk ?_) (Nx.mk ?_) <;> conv => whnf) | (refine condN Try.underlying4 (Nx.mk ?_); conv => whnf) | (refine condN (by (first | exact trivial | assumption | omega | (simp only [inK, lenR] at *; omega) | (simp; done) | fail)) (Nx.mk ?_); conv => whnf) | (refine Nx.mk ?_; conv => whnf))
    · have hk' : k < (sr (bfsC g us) (s, s) k).length := by simp only [lenR] at *; omega
      have ha : (keys (sr (bfsC g us) (s, s) k)).getD k 0 = ((sr (bfsC g us) (s, s) k).getD k default).1 := keys_getD hk'
      generalize hA : (keys (sr (bfsC g us) (s, s) k)).getD k 0 = a at *
      refine loopI tysOk [nm 25] (fun j : Nat => [(34, .I j), (11, .os (rt (nm 25)))]) (fun j => [(nm 20, some (.mp 150 (.ints .i64 (addAll (sr (bfsC g us) (s, s) k) (bfsL g us a (idxs (fromB a) g.2.1 j)))))), (nm 25, some (.row 3 (.ints .i64 ((keys (addAll (sr (bfsC g us) (s, s) k) (bfsL g us a (idxs (fromB a) g.2.1 j)))).drop k))))]) (fun j => j ≤ g.2.1.length) (fun j => g.2.1.length - j) 0 (Nat.zero_le _) ?_ ?_
      · ((try conv => whnf); refine ⟨rfl, by rfl, ?_, ?_⟩ <;> ((repeat' ((try conv => whnf); (first | exact trivial | exact Eq.refl _ | exact Or.inl (Eq.refl _) | refine And.intro ?_ ?_ | exact fun _ _ _ _ => Eq.refl _ | refine cellJ (fun _ _ => ?_) | (refine cellB ?_; (conv => whnf); refine And.intro ?_ ?_) | exact Nat.le_of_ble_eq_true (Eq.refl true) | exact ⟨_, _, Eq.refl _, Eq.refl _⟩ | fail))) <;> (try conv => whnf)))
        · rw [bfs_zero, addAll_nil]
        · rw [bfs_zero, addAll_nil]
      · intro j hj
        have hx1 := addAll_ext (l := bfsL g us a (idxs (fromB a) g.2.1 j)) hk'
        have hI1 := addAll_inv (l := bfsL g us a (idxs (fromB a) g.2.1 j)) hI hk' ha.symm (fun p hp => ⟨bfsL_in hj p hp, bfsC_rng hv _ p (bfsL_in hj p hp)⟩)
        have hL1 := hI1.len
        have hkl1 := keys_len (addAll (sr (bfsC g us) (s, s) k) (bfsL g us a (idxs (fromB a) g.2.1 j)))
        have hdl1 : ((keys (addAll (sr (bfsC g us) (s, s) k) (bfsL g us a (idxs (fromB a) g.2.1 j)))).drop k).length = (addAll (sr (bfsC g us) (s, s) k) (bfsL g us a (idxs (fromB a) g.2.1 j))).length - k := by rw [List.length_drop, hkl1]
        have hq : ((keys (addAll (sr (bfsC g us) (s, s) k) (bfsL g us a (idxs (fromB a) g.2.1 j)))).drop k).getD 0 0 = a := by
          rw [drop_getD, Nat.add_zero, keys_getD (by omega), hx1.2]; exact ha.symm
        have cu := hu j
        (repeat' first | (refine splitD (fun hs => Nx.mk ?_) (fun hs => Nx.mk ?_) <;> ((try simp only [Ct.len] at hs); revert hs; intro _; conv => whnf)) | (refine splitB (fun _ => Nx.mk ?_) (fun _ => Nx.mk ?_) <;> conv => whnf) | (refine idxNat (by (first | exact trivial | assumption | omega | (simp only [inK, lenR] at *; omega) | (simp; done) | fail)) (Nx.mk ?_); conv => whnf) | (refine idxPred (by omega) (by (first | exact trivial | assumption | omega | (simp only [inK, lenR] at *; omega) | (simp; done) | fail)) (Nx.mk ?_); conv => whnf) | (refine idxSucc (by (first | exact trivial | assumption | omega | (simp only [inK, lenR] at *; omega) | (simp; done) | fail)) (Nx.mk ?_); conv => whnf) | (refine idxTo (by omega) (by (first | exact trivial | assumption | omega | (simp only [inK, lenR] at *; omega) | (simp; done) | fail)) (Nx.mk ?_); conv => whnf) | (refine mkNat (by omega) (by omega) (Nx.mk ?_); conv => whnf) | (refine ar64 (by omega) (Nx.mk ?_); conv => whnf) | (refine ar_in (by (first | exact trivial | assumption | omega | (simp only [inK, lenR] at *; omega) | (simp; done) | fail)) (Nx.mk ?_); conv => whnf) | (refine nilQ (fun _ => Nx.mk ?_) (Nx.mk ?_) <;> conv => whnf) | (refine condN Try.underlying4 (Nx.mk ?_); conv => whnf) | (refine condN (by (first | exact trivial | assumption | omega | (simp only [inK, lenR] at *; omega) | (simp; done) | fail)) (Nx.mk ?_); conv => whnf) | (refine Nx.mk ?_; conv => whnf))
        · (refine VC_draw (sf := []) tysOk (by kernel_rfl) (by kernel_rfl) (Nx.mk ?_); conv => whnf)
          (repeat' first | ((with_reducible show ∃ _ : Bool, _); first | (refine ⟨_, [], _, [], _, _, cu (by omega), rfl, trivial, ?_, Nx.mk ?_⟩; (focus (((repeat' ((try conv => whnf); (first | exact trivial | exact Eq.refl _ | exact Or.inl (Eq.refl _) | refine And.intro ?_ ?_ | exact fun _ _ _ _ => Eq.refl _ | refine cellJ (fun _ _ => ?_) | (refine cellB ?_; (conv => whnf); refine And.intro ?_ ?_) | exact Nat.le_of_ble_eq_true (Eq.refl true) | exact ⟨_, _, Eq.refl _, Eq.refl _⟩ | fail))) <;> (try conv => whnf)); done)); conv => whnf))  | (refine splitD (fun hs => Nx.mk ?_) (fun hs => Nx.mk ?_) <;> ((try simp only [Ct.len] at hs); revert hs; intro _; conv => whnf)) | (refine splitB (fun _ => Nx.mk ?_) (fun _ => Nx.mk ?_) <;> conv => whnf) | (refine idxNat (by (first | exact trivial | assumption | omega | (simp only [inK, lenR] at *; omega) | (simp; done) | fail)) (Nx.mk ?_); conv => whnf) | (refine idxPred (by omega) (by (first | exact trivial | assumption | omega | (simp only [inK, lenR] at *; omega) | (simp; done) | fail)) (Nx.mk ?_); conv => whnf) | (refine idxSucc (by (first | exact trivial | assumption | omega | (simp only [inK, lenR] at *; omega) | (simp; done) | fail)) (Nx.mk ?_); conv => whnf) | (refine idxTo (by omega) (by (first | exact trivial | assumption | omega | (simp only [inK, lenR] at *; omega) | (simp; done) | fail)) (Nx.mk ?_); conv => whnf) | (refine mkNat (by omega) (by omega) (Nx.mk ?_); conv => whnf) | (refine ar64 (by omega) (Nx.mk ?_); conv => whnf) | (refine ar_in (by (first | exact trivial | assumption | omega | (simp only [inK, lenR] at *; omega) | (simp; done) | fail)) (Nx.mk ?_); conv => whnf) | (refine nilQ (fun _ => Nx.mk ?_) (Nx.mk ?_) <;> conv => whnf) | (refine condN Try.underlying4 (Nx.mk ?_); conv => whnf) | (refine condN (by (first | exact trivial | assumption | omega | (simp only [inK, lenR] at *; omega) | (simp; done) | fail)) (Nx.mk ?_); conv => whnf) | (refine Nx.mk ?_; conv => whnf))
          all_goals
            have e9 := bfs_skip (g := g) (us := us) (a := a) (m := (sr (bfsC g us) (s, s) k)) (j := j) (.inr (.inr (by assumption)))
            refine ⟨j + 1, by omega, by omega, ?_⟩
            ((try conv => whnf); refine ⟨rfl, by rfl, ?_, ?_⟩ <;> ((repeat' ((try conv => whnf); (first | exact trivial | exact Eq.refl _ | exact Or.inl (Eq.refl _) | refine And.intro ?_ ?_ | exact fun _ _ _ _ => Eq.refl _ | refine cellJ (fun _ _ => ?_) | (refine cellB ?_; (conv => whnf); refine And.intro ?_ ?_) | exact Nat.le_of_ble_eq_true (Eq.refl true) | exact ⟨_, _, Eq.refl _, Eq.refl _⟩ | fail))) <;> (try conv => whnf)))
            · rw [e9]
            · rw [e9]
        · rename_i hjl hseen
          (refine VC_draw (sf := []) tysOk (by kernel_rfl) (by kernel_rfl) (Nx.mk ?_); conv => whnf)
          (repeat' first | ((with_reducible show ∃ _ : Bool, _); first | (refine ⟨_, [], _, [], _, _, cu (by omega), rfl, trivial, ?_, Nx.mk ?_⟩; (focus (((repeat' ((try conv => whnf); (first | exact trivial | exact Eq.refl _ | exact Or.inl (Eq.refl _) | refine And.intro ?_ ?_ | exact fun _ _ _ _ => Eq.refl _ | refine cellJ (fun _ _ => ?_) | (refine cellB ?_; (conv => whnf); refine And.intro ?_ ?_) | exact Nat.le_of_ble_eq_true (Eq.refl true) | exact ⟨_, _, Eq.refl _, Eq.refl _⟩ | fail))) <;> (try conv => whnf)); done)); conv => whnf))  | (refine splitD (fun hs => Nx.mk ?_) (fun hs => Nx.mk ?_) <;> ((try simp only [Ct.len] at hs); revert hs; intro _; conv => whnf)) | (refine splitB (fun _ => Nx.mk ?_) (fun _ => Nx.mk ?_) <;> conv => whnf) | (refine idxNat (by (first | exact trivial | assumption | omega | (simp only [inK, lenR] at *; omega) | (simp; done) | fail)) (Nx.mk ?_); conv => whnf) | (refine idxPred (by omega) (by (first | exact trivial | assumption | omega | (simp only [inK, lenR] at *; omega) | (simp; done) | fail)) (Nx.mk ?_); conv => whnf) | (refine idxSucc (by (first | exact trivial | assumption | omega | (simp only [inK, lenR] at *; omega) | (simp; done) | fail)) (Nx.mk ?_); conv => whnf) | (refine idxTo (by omega) (by (first | exact trivial | assumption | omega | (simp only [inK, lenR] at *; omega) | (simp; done) | fail)) (Nx.mk ?_); conv => whnf) | (refine mkNat (by omega) (by omega) (Nx.mk ?_); conv => whnf) | (refine ar64 (by omega) (Nx.mk ?_); conv => whnf) | (refine ar_in (by (first | exact trivial | assumption | omega | (simp only [inK, lenR] at *; omega) | (simp; done) | fail)) (Nx.mk ?_); conv => whnf) | (refine nilQ (fun _ => Nx.mk ?_) (Nx.mk ?_) <;> conv => whnf) | (refine condN Try.underlying4 (Nx.mk ?_); conv => whnf) | (refine condN (by (first | exact trivial | assumption | omega | (simp only [inK, lenR] at *; omega) | (simp; done) | fail)) (Nx.mk ?_); conv => whnf) | (refine Nx.mk ?_; conv => whnf))
          all_goals first
            | (rename_i he hu1
               have he' : (eAt g j).1 = a := by rw [hq] at he; exact he
               have e9 := bfs_add (g := g) (us := us) (a := a) (m := (sr (bfsC g us) (s, s) k)) (j := j) he' hu1 (ntb hseen)
               refine ⟨j + 1, by omega, by omega, ?_⟩
               ((try conv => whnf); refine ⟨rfl, by rfl, ?_, ?_⟩ <;> ((repeat' ((try conv => whnf); (first | exact trivial | exact Eq.refl _ | exact Or.inl (Eq.refl _) | refine And.intro ?_ ?_ | exact fun _ _ _ _ => Eq.refl _ | refine cellJ (fun _ _ => ?_) | (refine cellB ?_; (conv => whnf); refine And.intro ?_ ?_) | exact Nat.le_of_ble_eq_true (Eq.refl true) | exact ⟨_, _, Eq.refl _, Eq.refl _⟩ | fail))) <;> (try conv => whnf)))
               · rw [e9]
                 have he2 : (g.2.1.getD j default).1 = a := he'
                 rw [he2]
                 exact mset_new (ntb hseen)
               · rw [e9, keys_app, drop_app (by omega)])
            | (have e9 := bfs_skip (g := g) (us := us) (a := a) (m := (sr (bfsC g us) (s, s) k)) (j := j) (by first | exact .inr (.inl (by assumption)) | exact .inl (fun h => by rename_i hne; exact hne (h.trans hq.symm)))
               refine ⟨j + 1, by omega, by omega, ?_⟩
               ((try conv => whnf); refine ⟨rfl, by rfl, ?_, ?_⟩ <;> ((repeat' ((try conv => whnf); (first | exact trivial | exact Eq.refl _ | exact Or.inl (Eq.refl _) | refine And.intro ?_ ?_ | exact fun _ _ _ _ => Eq.refl _ | refine cellJ (fun _ _ => ?_) | (refine cellB ?_; (conv => whnf); refine And.intro ?_ ?_) | exact Nat.le_of_ble_eq_true (Eq.refl true) | exact ⟨_, _, Eq.refl _, Eq.refl _⟩ | fail))) <;> (try conv => whnf)))
               · rw [e9]
               · rw [e9])
        · have e : j = g.2.1.length := by omega
          subst e
          have e9 : sr (bfsC g us) (s, s) (k + 1) = addAll (sr (bfsC g us) (s, s) k) (bfsL g us a (idxs (fromB a) g.2.1 g.2.1.length)) := by
            rw [sr_succ hk', ← ha, bfsC_eq]
          refine ⟨k + 1, by rw [e9]; omega, by omega, ?_⟩
          ((try conv => whnf); refine ⟨rfl, by rfl, ?_, ?_⟩ <;> ((repeat' ((try conv => whnf); (first | exact trivial | exact Eq.refl _ | exact Or.inl (Eq.refl _) | refine And.intro ?_ ?_ | exact fun _ _ _ _ => Eq.refl _ | refine cellJ (fun _ _ => ?_) | (refine cellB ?_; (conv => whnf); refine And.intro ?_ ?_) | exact Nat.le_of_ble_eq_true (Eq.refl true) | exact ⟨_, _, Eq.refl _, Eq.refl _⟩ | fail))) <;> (try conv => whnf)))
          · rw [e9]
          · rw [e9, List.drop_drop]; rfl
    · have hk2 : (sr (bfsC g us) (s, s) k).length ≤ k := by simp only [lenR] at *; omega
      have hM : sr (bfsC g us) (s, s) k = bfsM g us s := (srM_eq ⟨h0, h1⟩ (bfsC_rng hv) hg2 hk2).trans bfsM_eq.symm
      rename_i hend hgot
      rw [hM] at hgot ⊢
      have hIM := bfsM_inv (us := us) hv h0 h1
      obtain ⟨i0, hi0, et⟩ := has_at hgot
      have hLM := hIM.len
      refine loopI tysOk [nm 82] (fun i : Nat × List Int => [(19, .I ((bfsM g us s).getD i.1 default).1), (18, .os (rt (nm 82)))]) (fun i => [(nm 82, some (.row 3 (.ints .i64 (i.2 ++ [((bfsM g us s).getD i.1 default).1]))))]) (fun i => i.1 < (bfsM g us s).length ∧ ∃ n', i.1 ≤ n' ∧ chain (bfsM g us s) s 8 t = i.2 ++ chain (bfsM g us s) s n' ((bfsM g us s).getD i.1 default).1) (fun i => i.1) (i0, []) ⟨hi0, 8, by omega, by rw [et]; rfl⟩ ?_ ?_
      · ((try conv => whnf); refine ⟨rfl, by rfl, ?_, ?_⟩ <;> ((repeat' ((try conv => whnf); (first | exact trivial | exact Eq.refl _ | exact Or.inl (Eq.refl _) | refine And.intro ?_ ?_ | exact fun _ _ _ _ => Eq.refl _ | refine cellJ (fun _ _ => ?_) | (refine cellB ?_; (conv => whnf); refine And.intro ?_ ?_) | exact Nat.le_of_ble_eq_true (Eq.refl true) | exact ⟨_, _, Eq.refl _, Eq.refl _⟩ | fail))) <;> (try conv => whnf)))
        · exact et.symm
        · rw [et]; rfl
      · rintro ⟨i, pre⟩ ⟨hi, n', hn', hc⟩
        simp only at hi hn' hc
        dsimp only
        have hcl := chain_len (m := bfsM g us s) (s := s) (f := 8) (a := t)
        rw [hc, List.length_append] at hcl
        (repeat' first | (refine splitD (fun hs => Nx.mk ?_) (fun hs => Nx.mk ?_) <;> ((try simp only [Ct.len] at hs); revert hs; intro _; conv => whnf)) | (refine splitB (fun _ => Nx.mk ?_) (fun _ => Nx.mk ?_) <;> conv => whnf) | (refine idxNat (by (first | exact trivial | assumption | omega | (simp only [inK, lenR] at *; omega) | (simp; done) | fail)) (Nx.mk ?_); conv => whnf) | (refine idxPred (by omega) (by (first | exact trivial | assumption | omega | (simp only [inK, lenR] at *; omega) | (simp; done) | fail)) (Nx.mk ?_); conv => whnf) | (refine idxSucc (by (first | exact trivial | assumption | omega | (simp only [inK, lenR] at *; omega) | (simp; done) | fail)) (Nx.mk ?_); conv => whnf) | (refine idxTo (by omega) (by (first | exact trivial | assumption | omega | (simp only [inK, lenR] at *; omega) | (simp; done) | fail)) (Nx.mk ?_); conv => whnf) | (refine mkNat (by omega) (by omega) (Nx.mk ?_); conv => whnf) | (refine ar64 (by omega) (Nx.mk ?_); conv => whnf) | (refine ar_in (by (first | exact trivial | assumption | omega | (simp only [inK, lenR] at *; omega) | (simp; done) | fail)) (Nx.mk ?_); conv => whnf) | (refine nilQ (fun _ => Nx.mk ?_) (Nx.mk ?_) <;> conv => whnf) | (refine condN Try.underlying4 (Nx.mk ?_); conv => whnf) | (refine condN (by (first | exact trivial | assumption | omega | (simp only [inK, lenR] at *; omega) | (simp; done) | fail)) (Nx.mk ?_); conv => whnf) | (refine Nx.mk ?_; conv => whnf))
        · rename_i hne
          obtain ⟨j, k', hj, hg, _⟩ := bfs_up hIM hi hne
          obtain ⟨n1, rfl⟩ : ∃ n1, n' = n1 + 1 := ⟨n' - 1, by omega⟩
          rw [chain_step hne, hg] at hc
          refine ⟨(j, pre ++ [((bfsM g us s).getD i default).1]), ⟨by simp only; omega, n1, by simp only; omega, by simp only; rw [hc]; simp⟩, hj, ?_⟩
          ((try conv => whnf); refine ⟨rfl, by rfl, ?_, ?_⟩ <;> ((repeat' ((try conv => whnf); (first | exact trivial | exact Eq.refl _ | exact Or.inl (Eq.refl _) | refine And.intro ?_ ?_ | exact fun _ _ _ _ => Eq.refl _ | refine cellJ (fun _ _ => ?_) | (refine cellB ?_; (conv => whnf); refine And.intro ?_ ?_) | exact Nat.le_of_ble_eq_true (Eq.refl true) | exact ⟨_, _, Eq.refl _, Eq.refl _⟩ | fail))) <;> (try conv => whnf)))
          · exact hg
          · rw [hg]
        · rename_i hs
          have hs' : ((bfsM g us s).getD i default).1 = s := Classical.not_not.1 hs
          rw [hs', chain_at] at hc
          have hsp : spF g us s t = (pre ++ [((bfsM g us s).getD i default).1]).reverse := by rw [spF_yes hgot, hc, hs']
          (repeat' first | ((with_reducible show ∃ _ : Bool, _); first | (refine ⟨_, [rt (nm 82)], _, _, _, _, reverse_fn (pre ++ [((bfsM g us s).getD i default).1]) (by simp; omega), rfl, ?_, ?_, Nx.mk ?_⟩; (focus (((repeat' ((try conv => whnf); (first | exact trivial | exact Eq.refl _ | exact Or.inl (Eq.refl _) | refine And.intro ?_ ?_ | exact fun _ _ _ _ => Eq.refl _ | refine cellJ (fun _ _ => ?_) | (refine cellB ?_; (conv => whnf); refine And.intro ?_ ?_) | exact Nat.le_of_ble_eq_true (Eq.refl true) | exact ⟨_, _, Eq.refl _, Eq.refl _⟩ | fail))) <;> (try conv => whnf)); done)); (focus (((repeat' ((try conv => whnf); (first | exact trivial | exact Eq.refl _ | exact Or.inl (Eq.refl _) | refine And.intro ?_ ?_ | exact fun _ _ _ _ => Eq.refl _ | refine cellJ (fun _ _ => ?_) | (refine cellB ?_; (conv => whnf); refine And.intro ?_ ?_) | exact Nat.le_of_ble_eq_true (Eq.refl true) | exact ⟨_, _, Eq.refl _, Eq.refl _⟩ | fail))) <;> (try conv => whnf)); done)); conv => whnf))  | (refine splitD (fun hs => Nx.mk ?_) (fun hs => Nx.mk ?_) <;> ((try simp only [Ct.len] at hs); revert hs; intro _; conv => whnf)) | (refine splitB (fun _ => Nx.mk ?_) (fun _ => Nx.mk ?_) <;> conv => whnf) | (refine idxNat (by (first | exact trivial | assumption | omega | (simp only [inK, lenR] at *; omega) | (simp; done) | fail)) (Nx.mk ?_); conv => whnf) | (refine idxPred (by omega) (by (first | exact trivial | assumption | omega | (simp only [inK, lenR] at *; omega) | (simp; done) | fail)) (Nx.mk ?_); conv => whnf) | (refine idxSucc (by (first | exact trivial | assumption | omega | (simp only [inK, lenR] at *; omega) | (simp; done) | fail)) (Nx.mk ?_); conv => whnf) | (refine idxTo (by omega) (by (first | exact trivial | assumption | omega | (simp only [inK, lenR] at *; omega) | (simp; done) | fail)) (Nx.mk ?_); conv => whnf) | (refine mkNat (by omega) (by omega) (Nx.mk ?_); conv => whnf) | (refine ar64 (by omega) (Nx.mk ?_); conv => whnf) | (refine ar_in (by (first | exact trivial | assumption | omega | (simp only [inK, lenR] at *; omega) | (simp; done) | fail)) (Nx.mk ?_); conv => whnf) | (refine nilQ (fun _ => Nx.mk ?_) (Nx.mk ?_) <;> conv => whnf) | (refine condN Try.underlying4 (Nx.mk ?_); conv => whnf) | (refine condN (by (first | exact trivial | assumption | omega | (simp only [inK, lenR] at *; omega) | (simp; done) | fail)) (Nx.mk ?_); conv => whnf) | (refine Nx.mk ?_; conv => whnf))
          refine ⟨[(16, nm 82)], rfl, ?_, ?_, ?_, fun _ => ?_⟩
          · ((try conv => whnf); refine ⟨rfl, by rfl, ?_, ?_⟩ <;> ((repeat' ((try conv => whnf); (first | exact trivial | exact Eq.refl _ | exact Or.inl (Eq.refl _) | refine And.intro ?_ ?_ | exact fun _ _ _ _ => Eq.refl _ | refine cellJ (fun _ _ => ?_) | (refine cellB ?_; (conv => whnf); refine And.intro ?_ ?_) | exact Nat.le_of_ble_eq_true (Eq.refl true) | exact ⟨_, _, Eq.refl _, Eq.refl _⟩ | fail))) <;> (try conv => whnf)))
            exact hsp.symm
          · ((repeat' ((try conv => whnf); (first | exact trivial | exact Eq.refl _ | exact Or.inl (Eq.refl _) | refine And.intro ?_ ?_ | exact fun _ _ _ _ => Eq.refl _ | refine cellJ (fun _ _ => ?_) | (refine cellB ?_; (conv => whnf); refine And.intro ?_ ?_) | exact Nat.le_of_ble_eq_true (Eq.refl true) | exact ⟨_, _, Eq.refl _, Eq.refl _⟩ | fail))) <;> (try conv => whnf))
            exact hgot.symm
          all_goals ((repeat' ((try conv => whnf); (first | exact trivial | exact Eq.refl _ | exact Or.inl (Eq.refl _) | refine And.intro ?_ ?_ | exact fun _ _ _ _ => Eq.refl _ | refine cellJ (fun _ _ => ?_) | (refine cellB ?_; (conv => whnf); refine And.intro ?_ ?_) | exact Nat.le_of_ble_eq_true (Eq.refl true) | exact ⟨_, _, Eq.refl _, Eq.refl _⟩ | fail))) <;> (try conv => whnf))
    · have hk2 : (sr (bfsC g us) (s, s) k).length ≤ k := by simp only [lenR] at *; omega
      have hM : sr (bfsC g us) (s, s) k = bfsM g us s := (srM_eq ⟨h0, h1⟩ (bfsC_rng hv) hg2 hk2).trans bfsM_eq.symm
      rename_i hend hgot
      rw [hM] at hgot
      have hsp := spF_no hgot
      rw [hsp, hgot]
      refine ⟨[], rfl, ?_, ?_, ?_, fun _ => ?_⟩
      · ((try conv => whnf); refine ⟨rfl, by rfl, ?_, ?_⟩ <;> ((repeat' ((try conv => whnf); (first | exact trivial | exact Eq.refl _ | exact Or.inl (Eq.refl _) | refine And.intro ?_ ?_ | exact fun _ _ _ _ => Eq.refl _ | refine cellJ (fun _ _ => ?_) | (refine cellB ?_; (conv => whnf); refine And.intro ?_ ?_) | exact Nat.le_of_ble_eq_true (Eq.refl true) | exact ⟨_, _, Eq.refl _, Eq.refl _⟩ | fail))) <;> (try conv => whnf)))
      all_goals ((repeat' ((try conv => whnf); (first | exact trivial | exact Eq.refl _ | exact Or.inl (Eq.refl _) | refine And.intro ?_ ?_ | exact fun _ _ _ _ => Eq.refl _ | refine cellJ (fun _ _ => ?_) | (refine cellB ?_; (conv => whnf); refine And.intro ?_ ?_) | exact Nat.le_of_ble_eq_true (Eq.refl true) | exact ⟨_, _, Eq.refl _, Eq.refl _⟩ | fail))) <;> (try conv => whnf))
theorem dc1_fn (lf : List Int) (i : Nat) (h : i < lf.length) : Fn Try.prog 85 true (.cons (.I i) (.cons (.rp false 1 1 (fun _ _ => .ri false .i64 lf) 0 0) .nil)) [] (.b (usL lf i)) [] := by
  (refine Fn_of tysOk Try.func85 rfl rfl (by simp [AV.len, Try.f85]) ⟨?_⟩; conv => whnf)
  (repeat' first | (refine splitD (fun hs => Nx.mk ?_) (fun hs => Nx.mk ?_) <;> ((try simp only [Ct.len] at hs); revert hs; intro _; conv => whnf)) | (refine splitB (fun _ => Nx.mk ?_) (fun _ => Nx.mk ?_) <;> conv => whnf) | (refine idxNat (by (first | exact trivial | assumption | omega | (simp only [inK, lenR] at *; omega) | (simp; done) | fail)) (Nx.mk ?_); conv => whnf) | (refine idxPred (by omega) (by (first | exact trivial | assumption | omega | (simp only [inK, lenR] at *; omega) | (simp; done) | fail)) (Nx.mk ?_); conv => whnf) | (refine idxSucc (by (first | exact trivial | assumption | omega | (simp only [inK, lenR] at *; omega) | (simp; done) | fail)) (Nx.mk ?_); conv => whnf) | (refine idxTo (by omega) (by (first | exact trivial | assumption | omega | (simp only [inK, lenR] at *; omega) | (simp; done) | fail)) (Nx.mk ?_); conv => whnf) | (refine mkNat (by omega) (by omega) (Nx.mk ?_); conv => whnf) | (refine ar64 (by omega) (Nx.mk ?_); conv => whnf) | (refine ar_in (by (first | exact trivial | assumption | omega | (simp only [inK, lenR] at *; omega) | (simp; done) | fail)) (Nx.mk ?_); conv => whnf) | (refine nilQ (fun _ => Nx.mk ?_) (Nx.mk ?_) <;> conv => whnf) | (refine condN Try.underlying4 (Nx.mk ?_); conv => whnf) | (refine condN (by (first | exact trivial | assumption | omega | (simp only [inK, lenR] at *; omega) | (simp; done) | fail)) (Nx.mk ?_); conv => whnf) | (refine Nx.mk ?_; conv => whnf))
  all_goals
    (refine ⟨[], rfl, ⟨rfl, rfl, trivial, trivial⟩, ?_, ⟨?_, trivial⟩, fun _ => ⟨?_, trivial⟩⟩ <;> ((repeat' ((try conv => whnf); (first | exact trivial | exact Eq.refl _ | exact Or.inl (Eq.refl _) | refine And.intro ?_ ?_ | exact fun _ _ _ _ => Eq.refl _ | refine cellJ (fun _ _ => ?_) | (refine cellB ?_; (conv => whnf); refine And.intro ?_ ?_) | exact Nat.le_of_ble_eq_true (Eq.refl true) | exact ⟨_, _, Eq.refl _, Eq.refl _⟩ | fail))) <;> (try conv => whnf)))
    all_goals first
      | exact (decide_eq_true (by assumption)).symm
      | exact (decide_eq_false (by assumption)).symm
      | exact decide_eq_true (by assumption)
      | exact decide_eq_false (by assumption)
end
theorem heldPathS_fn (xs : List L1) (k : Int) (h0 : 0 ≤ k) (h1 : k ≤ 4194304) (h : tot szL1 xs ≤ 1048576) : Fn Try.prog 25 true (.cons (.rs false xs.length 1 (fun i j => (RdA (mkPs k xs xs.length i)).nth j)) (.cons (.I k) .nil)) [] (.I (k + (psum szL1 xs xs.length : Nat))) [] := by
  (refine Fn_of tysOk Try.func25 rfl rfl (by simp [AV.len, Try.f25]) ⟨?_⟩; conv => whnf)
  have htt : tot szL1 xs = xs.length + psum szL1 xs xs.length := rfl
  refine loopI tysOk [] (fun i : Nat => [(5, .I i), (1, .I (k + (psum szL1 xs i : Nat)))]) (fun i => []) (fun i => i ≤ xs.length) (fun i => xs.length - i) 0 (Nat.zero_le _) ?_ ?_
  · ((try conv => whnf); refine ⟨rfl, by rfl, ?_, ?_⟩ <;> ((repeat' ((try conv => whnf); (first | exact trivial | exact Eq.refl _ | exact Or.inl (Eq.refl _) | refine And.intro ?_ ?_ | exact fun _ _ _ _ => Eq.refl _ | refine cellJ (fun _ _ => ?_) | (refine cellB ?_; (conv => whnf); refine And.intro ?_ ?_) | exact Nat.le_of_ble_eq_true (Eq.refl true) | exact ⟨_, _, Eq.refl _, Eq.refl _⟩ | fail))) <;> (try conv => whnf)))
    simp [psum]
  intro i hi
  have hq := psum_le (sz := szL1) (xs := xs) (i := i) (j := xs.length) (by omega) (Nat.le_refl _)
  by_cases hlt : i < xs.length
  · have hp : psum szL1 xs (i + 1) = psum szL1 xs i + (xs.getD i default).1.length := psum_succ hlt
    have ht := tot_at (sz := szL1) hlt
    have hn : (mkPs k xs xs.length i).1 = marks (k + (psum szL1 xs i : Nat)) (xs.getD i default).1.length := by unfold mkPs; rw [if_pos hlt]
    have hc := heldIntS_fn (k + (psum szL1 xs i : Nat)) (xs.getD i default).1.length (by omega) (by omega) (Nat.le_trans ht (by omega))
    rw [← hn] at hc
    (repeat' first | ((with_reducible show ∃ _ : Bool, _); first | (refine ⟨_, [], _, [], _, _, hc, rfl, trivial, ?_, Nx.mk ?_⟩; (focus (((repeat' ((try conv => whnf); (first | exact trivial | exact Eq.refl _ | exact Or.inl (Eq.refl _) | refine And.intro ?_ ?_ | exact fun _ _ _ _ => Eq.refl _ | refine cellJ (fun _ _ => ?_) | (refine cellB ?_; (conv => whnf); refine And.intro ?_ ?_) | exact Nat.le_of_ble_eq_true (Eq.refl true) | exact ⟨_, _, Eq.refl _, Eq.refl _⟩ | fail))) <;> (try conv => whnf)); done)); conv => whnf))  | (refine splitD (fun hs => Nx.mk ?_) (fun hs => Nx.mk ?_) <;> ((try simp only [Ct.len] at hs); revert hs; intro _; conv => whnf)) | (refine splitB (fun _ => Nx.mk ?_) (fun _ => Nx.mk ?_) <;> conv => whnf) | (refine idxNat (by (first | exact trivial | assumption | omega | (simp only [inK, lenR] at *; omega) | (simp; done) | fail)) (Nx.mk ?_); conv => whnf) | (refine idxPred (by omega) (by (first | exact trivial | assumption | omega | (simp only [inK, lenR] at *; omega) | (simp; done) | fail)) (Nx.mk ?_); conv => whnf) | (refine idxSucc (by (first | exact trivial | assumption | omega | (simp only [inK, lenR] at *; omega) | (simp; done) | fail)) (Nx.mk ?_); conv => whnf) | (refine idxTo (by omega) (by (first | exact trivial | assumption | omega | (simp only [inK, lenR] at *; omega) | (simp; done) | fail)) (Nx.mk ?_); conv => whnf) | (refine mkNat (by omega) (by omega) (Nx.mk ?_); conv => whnf) | (refine ar64 (by omega) (Nx.mk ?_); conv => whnf) | (refine ar_in (by (first | exact trivial | assumption | omega | (simp only [inK, lenR] at *; omega) | (simp; done) | fail)) (Nx.mk ?_); conv => whnf) | (refine nilQ (fun _ => Nx.mk ?_) (Nx.mk ?_) <;> conv => whnf) | (refine condN Try.underlying4 (Nx.mk ?_); conv => whnf) | (refine condN (by (first | exact trivial | assumption | omega | (simp only [inK, lenR] at *; omega) | (simp; done) | fail)) (Nx.mk ?_); conv => whnf) | (refine Nx.mk ?_; conv => whnf))
    (all_goals try first | contradiction | (exfalso; omega))
    refine ⟨i + 1, by omega, by omega, ?_⟩
    ((try conv => whnf); refine ⟨rfl, by rfl, ?_, ?_⟩ <;> ((repeat' ((try conv => whnf); (first | exact trivial | exact Eq.refl _ | exact Or.inl (Eq.refl _) | refine And.intro ?_ ?_ | exact fun _ _ _ _ => Eq.refl _ | refine cellJ (fun _ _ => ?_) | (refine cellB ?_; (conv => whnf); refine And.intro ?_ ?_) | exact Nat.le_of_ble_eq_true (Eq.refl true) | exact ⟨_, _, Eq.refl _, Eq.refl _⟩ | fail))) <;> (try conv => whnf)))
    all_goals omega
  · obtain rfl : i = xs.length := by omega
    (repeat' first | (refine splitD (fun hs => Nx.mk ?_) (fun hs => Nx.mk ?_) <;> ((try simp only [Ct.len] at hs); revert hs; intro _; conv => whnf)) | (refine splitB (fun _ => Nx.mk ?_) (fun _ => Nx.mk ?_) <;> conv => whnf) | (refine idxNat (by (first | exact trivial | assumption | omega | (simp only [inK, lenR] at *; omega) | (simp; done) | fail)) (Nx.mk ?_); conv => whnf) | (refine idxPred (by omega) (by (first | exact trivial | assumption | omega | (simp only [inK, lenR] at *; omega) | (simp; done) | fail)) (Nx.mk ?_); conv => whnf) | (refine idxSucc (by (first | exact trivial | assumption | omega | (simp only [inK, lenR] at *; omega) | (simp; done) | fail)) (Nx.mk ?_); conv => whnf) | (refine idxTo (by omega) (by (first | exact trivial | assumption | omega | (simp only [inK, lenR] at *; omega) | (simp; done) | fail)) (Nx.mk ?_); conv => whnf) | (refine mkNat (by omega) (by omega) (Nx.mk ?_); conv => whnf) | (refine ar64 (by omega) (Nx.mk ?_); conv => whnf) | (refine ar_in (by (first | exact trivial | assumption | omega | (simp only [inK, lenR] at *; omega) | (simp; done) | fail)) (Nx.mk ?_); conv => whnf) | (refine nilQ (fun _ => Nx.mk ?_) (Nx.mk ?_) <;> conv => whnf) | (refine condN Try.underlying4 (Nx.mk ?_); conv => whnf) | (refine condN (by (first | exact trivial | assumption | omega | (simp only [inK, lenR] at *; omega) | (simp; done) | fail)) (Nx.mk ?_); conv => whnf) | (refine Nx.mk ?_; conv => whnf))
    (all_goals try first | contradiction | (exfalso; omega))
    all_goals (refine ⟨[], rfl, ⟨rfl, rfl, trivial, trivial⟩, ?_, ⟨?_, trivial⟩, fun _ => ⟨?_, trivial⟩⟩ <;> ((repeat' ((try conv => whnf); (first | exact trivial | exact Eq.refl _ | exact Or.inl (Eq.refl _) | refine And.intro ?_ ?_ | exact fun _ _ _ _ => Eq.refl _ | refine cellJ (fun _ _ => ?_) | (refine cellB ?_; (conv => whnf); refine And.intro ?_ ?_) | exact Nat.le_of_ble_eq_true (Eq.refl true) | exact ⟨_, _, Eq.refl _, Eq.refl _⟩ | fail))) <;> (try conv => whnf)))
noncomputable def dcG (g : Gr) (f : List Int) (s t : Int) : List L1 := if vflow g f s t = true then dcL g s t f else []
theorem dcG_y {g : Gr} {f : List Int} {s t : Int} (h : vflow g f s t = true) : dcG g f s t = dcL g s t f := if_pos h
theorem dcG_n {g : Gr} {f : List Int} {s t : Int} (h : vflow g f s t = false) : dcG g f s t = [] := if_neg (by simp [h])
theorem vflow_iff {g : Gr} {f : List Int} {s t : Int} : vflow g f s t = true ↔ VFlow g f s t := by simp [vflow]
/-- How the paths of the first rounds lie. -/
structure DcI (g : Gr) (s t : Int) (f : List Int) (r : Nat) : Prop where
  lf : LeftOk g (dcN g s t f r).1
  tt : totL (dcN g s t f r).1 g.2.1.length + r ≤ 160
  ln : (dcN g s t f r).2.length = r
  at_ : ∀ i, i < r → ((dcN g s t f r).2.getD i default).1.length ≤ 8
theorem iSpDc_fn (l : List Int) (g : Gr) (s t : Int) (hq : Quest g s t) (hl : l.length = g.2.1.length) : Fn Try.prog 84 true (.cons (GrA g) (.cons (.I s) (.cons (.I t) (.cons (.fn 85 (.cons (.rp false 1 1 (fun _ _ => .ri false .i64 l) 0 0) .nil)) .nil)))) [] (.tup (.cons (.agg (.cons (.os (rt 16)) .nil)) (.cons (.b (dcB g s t l)) .nil))) [(16, .row 3 (.ints .i64 (dcP g s t l)))] :=
  iSpD_fn l g s t hq.v hq.s0 hq.s1 hq.t0 hq.t1 (usL l) (fun i hi => dc1_fn l i (by omega))
attribute [local irreducible] dcN decP dcB dcP
theorem dcI_z {g : Gr} {s t : Int} {f : List Int} (h : VFlow g f s t) : DcI g s t f 0 := by
  have hl : LeftOk g f := ⟨h.len, fun k hk => by have := h.rng k hk; have := cap_in h.q.v (i := k) (by rw [← h.len]; exact hk); omega⟩
  have h20 := h.q.v.len
  have := left_tot hl (n := g.2.1.length) (by rw [h.len]; exact Nat.le_refl _)
  exact ⟨by rw [dcN_z]; exact hl, by rw [dcN_z]; simp only; omega, by rw [dcN_z]; rfl, fun i hi => by omega⟩
theorem dcI_s {g : Gr} {s t : Int} {f : List Int} {r : Nat} (hq : Quest g s t) (h : DcI g s t f r) (hb : dcB g s t (dcN g s t f r).1 = true) : DcI g s t f (r + 1) := by
  obtain ⟨a1, a2⟩ := dc_round hq h.lf hb
  obtain ⟨_, _, p3, _⟩ := dc_path hq h.lf hb
  have htt := h.tt
  refine ⟨a1, by omega, ?_, fun i hi => ?_⟩
  · rw [dcN_y hb]; simp [h.ln]
  · rw [dcN_y hb]
    simp only
    by_cases e : i < r
    · rw [snoc_at (by rw [h.ln]; exact e)]; exact h.at_ i e
    · obtain rfl : i = r := by omega
      have e2 : ((dcN g s t f i).2 ++ [(dcP g s t (dcN g s t f i).1, ())]).getD i default = (dcP g s t (dcN g s t f i).1, ()) := by
        have := snoc_end (xs := (dcN g s t f i).2) (x := (dcP g s t (dcN g s t f i).1, ()))
        rwa [h.ln] at this
      rw [e2]
      generalize dcP g s t (dcN g s t f i).1 = p at p3
      exact p3
theorem dcI_end {g : Gr} {s t : Int} {f : List Int} {r : Nat} (h : DcI g s t f r) (hb : dcB g s t (dcN g s t f r).1 = false) : dcL g s t f = (dcN g s t f r).2 := by
  have h1 := left_tot h.lf (n := g.2.1.length) (by rw [h.lf.len]; exact Nat.le_refl _)
  have h2 := h.tt
  obtain ⟨k, hk⟩ : ∃ k, 200 = r + k := ⟨200 - r, by omega⟩
  unfold dcL
  rw [hk, dcN_stop hb]
attribute [local irreducible] dcL totL usL pes pe
theorem iDc_fn (g : Gr) (f : L1) (s t : Int) (h : g.2.1.length ≤ 1048576) (hf : f.1.length ≤ 1048576) : Fn Try.prog 18 true (.cons (GrA g) (.cons (L1A f) (.cons (.I s) (.cons (.I t) .nil)))) [] (.os (rt 16)) [(16, .row 64 (.tab (dcG g f.1 s t).length 1 (cellsA OwA (dcG g f.1 s t))))] := by
  have cv := iVflow_fn g f s t h hf
  cases hv : vflow g f.1 s t with
  | false =>
    rw [hv] at cv
    rw [dcG_n hv]
    (refine Fn_of tysOk Try.func18 rfl rfl (by simp [AV.len, Try.f18]) ⟨?_⟩; conv => whnf)
    (repeat' first | ((with_reducible show ∃ _ : Bool, _); first | (refine ⟨_, [], _, [], _, _, cv, rfl, trivial, ?_, Nx.mk ?_⟩; (focus (((repeat' ((try conv => whnf); (first | exact trivial | exact Eq.refl _ | exact Or.inl (Eq.refl _) | refine And.intro ?_ ?_ | exact fun _ _ _ _ => Eq.refl _ | refine cellJ (fun _ _ => ?_) | (refine cellB ?_; (conv => whnf); refine And.intro ?_ ?_) | exact Nat.le_of_ble_eq_true (Eq.refl true) | exact ⟨_, _, Eq.refl _, Eq.refl _⟩ | fail))) <;> (try conv => whnf)); done)); conv => whnf))  | (refine splitD (fun hs => Nx.mk ?_) (fun hs => Nx.mk ?_) <;> ((try simp only [Ct.len] at hs); revert hs; intro _; conv => whnf)) | (refine splitB (fun _ => Nx.mk ?_) (fun _ => Nx.mk ?_) <;> conv => whnf) | (refine idxNat (by (first | exact trivial | assumption | omega | (simp only [inK, lenR] at *; omega) | (simp; done) | fail)) (Nx.mk ?_); conv => whnf) | (refine idxPred (by omega) (by (first | exact trivial | assumption | omega | (simp only [inK, lenR] at *; omega) | (simp; done) | fail)) (Nx.mk ?_); conv => whnf) | (refine idxSucc (by (first | exact trivial | assumption | omega | (simp only [inK, lenR] at *; omega) | (simp; done) | fail)) (Nx.mk ?_); conv => whnf) | (refine idxTo (by omega) (by (first | exact trivial | assumption | omega | (simp only [inK, lenR] at *; omega) | (simp; done) | fail)) (Nx.mk ?_); conv => whnf) | (refine mkNat (by omega) (by omega) (Nx.mk ?_); conv => whnf) | (refine ar64 (by omega) (Nx.mk ?_); conv => whnf) | (refine ar_in (by (first | exact trivial | assumption | omega | (simp only [inK, lenR] at *; omega) | (simp; done) | fail)) (Nx.mk ?_); conv => whnf) | (refine nilQ (fun _ => Nx.mk ?_) (Nx.mk ?_) <;> conv => whnf) | (refine condN Try.underlying4 (Nx.mk ?_); conv => whnf) | (refine condN (by (first | exact trivial | assumption | omega | (simp only [inK, lenR] at *; omega) | (simp; done) | fail)) (Nx.mk ?_); conv => whnf) | (refine Nx.mk ?_; conv => whnf))
    (all_goals try first | contradiction | (exfalso; omega))
    all_goals
      refine ⟨[], rfl, ?_, ?_, ?_, fun _ => ?_⟩
      · ((try conv => whnf); refine ⟨rfl, by rfl, ?_, ?_⟩ <;> ((repeat' ((try conv => whnf); (first | exact trivial | exact Eq.refl _ | exact Or.inl (Eq.refl _) | refine And.intro ?_ ?_ | exact fun _ _ _ _ => Eq.refl _ | refine cellJ (fun _ _ => ?_) | (refine cellB ?_; (conv => whnf); refine And.intro ?_ ?_) | exact Nat.le_of_ble_eq_true (Eq.refl true) | exact ⟨_, _, Eq.refl _, Eq.refl _⟩ | fail))) <;> (try conv => whnf)))
      all_goals ((repeat' ((try conv => whnf); (first | exact trivial | exact Eq.refl _ | exact Or.inl (Eq.refl _) | refine And.intro ?_ ?_ | exact fun _ _ _ _ => Eq.refl _ | refine cellJ (fun _ _ => ?_) | (refine cellB ?_; (conv => whnf); refine And.intro ?_ ?_) | exact Nat.le_of_ble_eq_true (Eq.refl true) | exact ⟨_, _, Eq.refl _, Eq.refl _⟩ | fail))) <;> (try conv => whnf))
  | true =>
    have hV := vflow_iff.1 hv
    have hQ := hV.q
    rw [hv] at cv
    rw [dcG_y hv]
    (refine Fn_of tysOk Try.func18 rfl rfl (by simp [AV.len, Try.f18]) ⟨?_⟩; conv => whnf)
    (repeat' first | ((with_reducible show ∃ _ : Bool, _); first | (refine ⟨_, [], _, [], _, _, cv, rfl, trivial, ?_, Nx.mk ?_⟩; (focus (((repeat' ((try conv => whnf); (first | exact trivial | exact Eq.refl _ | exact Or.inl (Eq.refl _) | refine And.intro ?_ ?_ | exact fun _ _ _ _ => Eq.refl _ | refine cellJ (fun _ _ => ?_) | (refine cellB ?_; (conv => whnf); refine And.intro ?_ ?_) | exact Nat.le_of_ble_eq_true (Eq.refl true) | exact ⟨_, _, Eq.refl _, Eq.refl _⟩ | fail))) <;> (try conv => whnf)); done)); conv => whnf) | (refine ⟨_, [], _, [], _, _, clone_fn f.1 (by omega), rfl, trivial, ?_, Nx.mk ?_⟩; (focus (((repeat' ((try conv => whnf); (first | exact trivial | exact Eq.refl _ | exact Or.inl (Eq.refl _) | refine And.intro ?_ ?_ | exact fun _ _ _ _ => Eq.refl _ | refine cellJ (fun _ _ => ?_) | (refine cellB ?_; (conv => whnf); refine And.intro ?_ ?_) | exact Nat.le_of_ble_eq_true (Eq.refl true) | exact ⟨_, _, Eq.refl _, Eq.refl _⟩ | fail))) <;> (try conv => whnf)); done)); conv => whnf))  | (refine splitD (fun hs => Nx.mk ?_) (fun hs => Nx.mk ?_) <;> ((try simp only [Ct.len] at hs); revert hs; intro _; conv => whnf)) | (refine splitB (fun _ => Nx.mk ?_) (fun _ => Nx.mk ?_) <;> conv => whnf) | (refine idxNat (by (first | exact trivial | assumption | omega | (simp only [inK, lenR] at *; omega) | (simp; done) | fail)) (Nx.mk ?_); conv => whnf) | (refine idxPred (by omega) (by (first | exact trivial | assumption | omega | (simp only [inK, lenR] at *; omega) | (simp; done) | fail)) (Nx.mk ?_); conv => whnf) | (refine idxSucc (by (first | exact trivial | assumption | omega | (simp only [inK, lenR] at *; omega) | (simp; done) | fail)) (Nx.mk ?_); conv => whnf) | (refine idxTo (by omega) (by (first | exact trivial | assumption | omega | (simp only [inK, lenR] at *; omega) | (simp; done) | fail)) (Nx.mk ?_); conv => whnf) | (refine mkNat (by omega) (by omega) (Nx.mk ?_); conv => whnf) | (refine ar64 (by omega) (Nx.mk ?_); conv => whnf) | (refine ar_in (by (first | exact trivial | assumption | omega | (simp only [inK, lenR] at *; omega) | (simp; done) | fail)) (Nx.mk ?_); conv => whnf) | (refine nilQ (fun _ => Nx.mk ?_) (Nx.mk ?_) <;> conv => whnf) | (refine condN Try.underlying4 (Nx.mk ?_); conv => whnf) | (refine condN (by (first | exact trivial | assumption | omega | (simp only [inK, lenR] at *; omega) | (simp; done) | fail)) (Nx.mk ?_); conv => whnf) | (refine Nx.mk ?_; conv => whnf))
    (all_goals try first | contradiction | (exfalso; omega))
    refine loopI tysOk [nm 53, nm 29] (fun r : Nat => [(10, .os (rt (nm 53)))]) (fun r => [(nm 23, some (.row 3 (.ints .i64 (dcN g s t f.1 r).1))), (nm 53, some (.row 64 (.tab (dcN g s t f.1 r).2.length 1 (cellsA OwA (dcN g s t f.1 r).2))))]) (fun r => DcI g s t f.1 r) (fun r => (totL (dcN g s t f.1 r).1 g.2.1.length).toNat) 0 (dcI_z hV) ?_ ?_
    · ((try conv => whnf); refine ⟨rfl, by rfl, ?_, ?_⟩ <;> ((repeat' ((try conv => whnf); (first | exact trivial | exact Eq.refl _ | exact Or.inl (Eq.refl _) | refine And.intro ?_ ?_ | exact fun _ _ _ _ => Eq.refl _ | refine cellJ (fun _ _ => ?_) | (refine cellB ?_; (conv => whnf); refine And.intro ?_ ?_) | exact Nat.le_of_ble_eq_true (Eq.refl true) | exact ⟨_, _, Eq.refl _, Eq.refl _⟩ | fail))) <;> (try conv => whnf)))
      all_goals simp only [dcN_z]
      all_goals ((repeat' ((try conv => whnf); (first | exact trivial | exact Eq.refl _ | exact Or.inl (Eq.refl _) | refine And.intro ?_ ?_ | exact fun _ _ _ _ => Eq.refl _ | refine cellJ (fun _ _ => ?_) | (refine cellB ?_; (conv => whnf); refine And.intro ?_ ?_) | exact Nat.le_of_ble_eq_true (Eq.refl true) | exact ⟨_, _, Eq.refl _, Eq.refl _⟩ | fail))) <;> (try conv => whnf))
    intro r hI
    have hL := hI.lf
    have hLl := hL.len
    have hln := hI.ln
    have hs := fun hb => dcI_s hQ hI hb
    have hr := fun hb => dc_round (l := f.1) (r := r) hQ hL hb
    have he := fun hb => dcI_end hI hb
    have hy := dcN_y (g := g) (s := s) (t := t) (l := f.1) (r := r)
    have hp := fun hb => dc_path (l := (dcN g s t f.1 r).1) hQ hL hb
    have htl := left_tot hL (n := g.2.1.length) (by omega)
    have hr160 : r ≤ 160 := by have := hI.tt; omega
    generalize (dcN g s t f.1 r).1 = l at *
    generalize (dcN g s t f.1 r).2 = out at *
    have cs := iSpDc_fn l g s t hQ hLl
    cases hb : dcB g s t l with
    | false =>
      rw [hb] at cs
      rw [he hb]
      (repeat' first | ((with_reducible show ∃ _ : Bool, _); first | (refine ⟨_, [], _, [], _, _, cs, rfl, trivial, ?_, Nx.mk ?_⟩; (focus (((repeat' ((try conv => whnf); (first | exact trivial | exact Eq.refl _ | exact Or.inl (Eq.refl _) | refine And.intro ?_ ?_ | exact fun _ _ _ _ => Eq.refl _ | refine cellJ (fun _ _ => ?_) | (refine cellB ?_; (conv => whnf); refine And.intro ?_ ?_) | exact Nat.le_of_ble_eq_true (Eq.refl true) | exact ⟨_, _, Eq.refl _, Eq.refl _⟩ | fail))) <;> (try conv => whnf)); done)); conv => whnf))  | (refine splitD (fun hs => Nx.mk ?_) (fun hs => Nx.mk ?_) <;> ((try simp only [Ct.len] at hs); revert hs; intro _; conv => whnf)) | (refine splitB (fun _ => Nx.mk ?_) (fun _ => Nx.mk ?_) <;> conv => whnf) | (refine idxNat (by (first | exact trivial | assumption | omega | (simp only [inK, lenR] at *; omega) | (simp; done) | fail)) (Nx.mk ?_); conv => whnf) | (refine idxPred (by omega) (by (first | exact trivial | assumption | omega | (simp only [inK, lenR] at *; omega) | (simp; done) | fail)) (Nx.mk ?_); conv => whnf) | (refine idxSucc (by (first | exact trivial | assumption | omega | (simp only [inK, lenR] at *; omega) | (simp; done) | fail)) (Nx.mk ?_); conv => whnf) | (refine idxTo (by omega) (by (first | exact trivial | assumption | omega | (simp only [inK, lenR] at *; omega) | (simp; done) | fail)) (Nx.mk ?_); conv => whnf) | (refine mkNat (by omega) (by omega) (Nx.mk ?_); conv => whnf) | (refine ar64 (by omega) (Nx.mk ?_); conv => whnf) | (refine ar_in (by (first | exact trivial | assumption | omega | (simp only [inK, lenR] at *; omega) | (simp; done) | fail)) (Nx.mk ?_); conv => whnf) | (refine nilQ (fun _ => Nx.mk ?_) (Nx.mk ?_) <;> conv => whnf) | (refine condN Try.underlying4 (Nx.mk ?_); conv => whnf) | (refine condN (by (first | exact trivial | assumption | omega | (simp only [inK, lenR] at *; omega) | (simp; done) | fail)) (Nx.mk ?_); conv => whnf) | (refine Nx.mk ?_; conv => whnf))
      (all_goals try first | contradiction | (exfalso; omega))
      refine ⟨[(16, nm 53)], rfl, ?_, ?_, ?_, fun _ => ?_⟩
      · ((try conv => whnf); refine ⟨rfl, by rfl, ?_, ?_⟩ <;> ((repeat' ((try conv => whnf); (first | exact trivial | exact Eq.refl _ | exact Or.inl (Eq.refl _) | refine And.intro ?_ ?_ | exact fun _ _ _ _ => Eq.refl _ | refine cellJ (fun _ _ => ?_) | (refine cellB ?_; (conv => whnf); refine And.intro ?_ ?_) | exact Nat.le_of_ble_eq_true (Eq.refl true) | exact ⟨_, _, Eq.refl _, Eq.refl _⟩ | fail))) <;> (try conv => whnf)))
      all_goals ((repeat' ((try conv => whnf); (first | exact trivial | exact Eq.refl _ | exact Or.inl (Eq.refl _) | refine And.intro ?_ ?_ | exact fun _ _ _ _ => Eq.refl _ | refine cellJ (fun _ _ => ?_) | (refine cellB ?_; (conv => whnf); refine And.intro ?_ ?_) | exact Nat.le_of_ble_eq_true (Eq.refl true) | exact ⟨_, _, Eq.refl _, Eq.refl _⟩ | fail))) <;> (try conv => whnf))
    | true =>
      rw [hb] at cs
      obtain ⟨p1, p2, p3, p4⟩ := hp hb
      have hI2 := hs hb
      have hr2 := (hr hb).2
      have ht2 := left_tot hI2.lf (n := g.2.1.length) (by rw [hI2.lf.len]; exact Nat.le_refl _)
      have hy2 := hy hb
      clear hy hs hr he hp
      generalize dcP g s t l = p at *
      have cp := pathEdges_fn g (p, ()) (by omega) (by show p.length ≤ _; omega)
      have hpl := pes_len g p
      simp only at cp
      (repeat' first | ((with_reducible show ∃ _ : Bool, _); first | (refine ⟨_, [], _, [], _, _, cs, rfl, trivial, ?_, Nx.mk ?_⟩; (focus (((repeat' ((try conv => whnf); (first | exact trivial | exact Eq.refl _ | exact Or.inl (Eq.refl _) | refine And.intro ?_ ?_ | exact fun _ _ _ _ => Eq.refl _ | refine cellJ (fun _ _ => ?_) | (refine cellB ?_; (conv => whnf); refine And.intro ?_ ?_) | exact Nat.le_of_ble_eq_true (Eq.refl true) | exact ⟨_, _, Eq.refl _, Eq.refl _⟩ | fail))) <;> (try conv => whnf)); done)); conv => whnf) | (refine ⟨_, [], _, [], _, _, cp, rfl, trivial, ?_, Nx.mk ?_⟩; (focus (((repeat' ((try conv => whnf); (first | exact trivial | exact Eq.refl _ | exact Or.inl (Eq.refl _) | refine And.intro ?_ ?_ | exact fun _ _ _ _ => Eq.refl _ | refine cellJ (fun _ _ => ?_) | (refine cellB ?_; (conv => whnf); refine And.intro ?_ ?_) | exact Nat.le_of_ble_eq_true (Eq.refl true) | exact ⟨_, _, Eq.refl _, Eq.refl _⟩ | fail))) <;> (try conv => whnf)); done)); conv => whnf))  | (refine splitD (fun hs => Nx.mk ?_) (fun hs => Nx.mk ?_) <;> ((try simp only [Ct.len] at hs); revert hs; intro _; conv => whnf)) | (refine splitB (fun _ => Nx.mk ?_) (fun _ => Nx.mk ?_) <;> conv => whnf) | (refine idxNat (by (first | exact trivial | assumption | omega | (simp only [inK, lenR] at *; omega) | (simp; done) | fail)) (Nx.mk ?_); conv => whnf) | (refine idxPred (by omega) (by (first | exact trivial | assumption | omega | (simp only [inK, lenR] at *; omega) | (simp; done) | fail)) (Nx.mk ?_); conv => whnf) | (refine idxSucc (by (first | exact trivial | assumption | omega | (simp only [inK, lenR] at *; omega) | (simp; done) | fail)) (Nx.mk ?_); conv => whnf) | (refine idxTo (by omega) (by (first | exact trivial | assumption | omega | (simp only [inK, lenR] at *; omega) | (simp; done) | fail)) (Nx.mk ?_); conv => whnf) | (refine mkNat (by omega) (by omega) (Nx.mk ?_); conv => whnf) | (refine ar64 (by omega) (Nx.mk ?_); conv => whnf) | (refine ar_in (by (first | exact trivial | assumption | omega | (simp only [inK, lenR] at *; omega) | (simp; done) | fail)) (Nx.mk ?_); conv => whnf) | (refine nilQ (fun _ => Nx.mk ?_) (Nx.mk ?_) <;> conv => whnf) | (refine condN Try.underlying4 (Nx.mk ?_); conv => whnf) | (refine condN (by (first | exact trivial | assumption | omega | (simp only [inK, lenR] at *; omega) | (simp; done) | fail)) (Nx.mk ?_); conv => whnf) | (refine Nx.mk ?_; conv => whnf))
      (all_goals try first | contradiction | (exfalso; omega))
      refine loopI tysOk [] (fun i : Nat => [(39, .I i)]) (fun i => [(nm 23, some (.row 3 (.ints .i64 (decP g p l i))))]) (fun i => i ≤ p.length - 1) (fun i => p.length - 1 - i) 0 (Nat.zero_le _) ?_ ?_
      · ((try conv => whnf); refine ⟨rfl, by rfl, ?_, ?_⟩ <;> ((repeat' ((try conv => whnf); (first | exact trivial | exact Eq.refl _ | exact Or.inl (Eq.refl _) | refine And.intro ?_ ?_ | exact fun _ _ _ _ => Eq.refl _ | refine cellJ (fun _ _ => ?_) | (refine cellB ?_; (conv => whnf); refine And.intro ?_ ?_) | exact Nat.le_of_ble_eq_true (Eq.refl true) | exact ⟨_, _, Eq.refl _, Eq.refl _⟩ | fail))) <;> (try conv => whnf)))
        all_goals (rw [decP_z]; done)
      intro i hi
      obtain ⟨d1, d2, d3, d4⟩ := decP_ok hL p1 p4 (i := i) hi
      by_cases hlt : i < p.length - 1
      · have he1 := pe_ok p1 hlt
        have he2 := pes_getD (g := g) hlt
        have hdl := d3.len
        have hb1 := d3.rng (pe g p i).toNat (by rw [d3.len]; omega)
        have ds1 := decP_s (g := g) (p := p) (l := l) (i := i)
        rw [← he2] at he1 hb1 ds1
        (repeat' first | ((refine VC_draw (sf := []) tysOk (by kernel_rfl) (by kernel_rfl) (Nx.mk ?_); conv => whnf)) | (refine splitD (fun hs => Nx.mk ?_) (fun hs => Nx.mk ?_) <;> ((try simp only [Ct.len] at hs); revert hs; intro _; conv => whnf)) | (refine splitB (fun _ => Nx.mk ?_) (fun _ => Nx.mk ?_) <;> conv => whnf) | (refine idxNat (by (first | exact trivial | assumption | omega | (simp only [inK, lenR] at *; omega) | (simp; done) | fail)) (Nx.mk ?_); conv => whnf) | (refine idxPred (by omega) (by (first | exact trivial | assumption | omega | (simp only [inK, lenR] at *; omega) | (simp; done) | fail)) (Nx.mk ?_); conv => whnf) | (refine idxSucc (by (first | exact trivial | assumption | omega | (simp only [inK, lenR] at *; omega) | (simp; done) | fail)) (Nx.mk ?_); conv => whnf) | (refine idxTo (by omega) (by (first | exact trivial | assumption | omega | (simp only [inK, lenR] at *; omega) | (simp; done) | fail)) (Nx.mk ?_); conv => whnf) | (refine mkNat (by omega) (by omega) (Nx.mk ?_); conv => whnf) | (refine ar64 (by omega) (Nx.mk ?_); conv => whnf) | (refine ar_in (by (first | exact trivial | assumption | omega | (simp only [inK, lenR] at *; omega) | (simp; done) | fail)) (Nx.mk ?_); conv => whnf) | (refine nilQ (fun _ => Nx.mk ?_) (Nx.mk ?_) <;> conv => whnf) | (refine condN Try.underlying4 (Nx.mk ?_); conv => whnf) | (refine condN (by (first | exact trivial | assumption | omega | (simp only [inK, lenR] at *; omega) | (simp; done) | fail)) (Nx.mk ?_); conv => whnf) | (refine Nx.mk ?_; conv => whnf))
        (all_goals try first | contradiction | (exfalso; omega))
        refine ⟨i + 1, by omega, by omega, ?_⟩
        ((try conv => whnf); refine ⟨rfl, by rfl, ?_, ?_⟩ <;> ((repeat' ((try conv => whnf); (first | exact trivial | exact Eq.refl _ | exact Or.inl (Eq.refl _) | refine And.intro ?_ ?_ | exact fun _ _ _ _ => Eq.refl _ | refine cellJ (fun _ _ => ?_) | (refine cellB ?_; (conv => whnf); refine And.intro ?_ ?_) | exact Nat.le_of_ble_eq_true (Eq.refl true) | exact ⟨_, _, Eq.refl _, Eq.refl _⟩ | fail))) <;> (try conv => whnf)))
        all_goals (rw [ds1]; done)
      · obtain rfl : i = p.length - 1 := by omega
        have hout : out.length ≤ 160 := by omega
        (repeat' first | (refine condN (show out.length + 1 ≤ 1073741824 by omega) (Nx.mk ?_); conv => whnf) | (refine splitD (fun hs => Nx.mk ?_) (fun hs => Nx.mk ?_) <;> ((try simp only [Ct.len] at hs); revert hs; intro _; conv => whnf)) | (refine splitB (fun _ => Nx.mk ?_) (fun _ => Nx.mk ?_) <;> conv => whnf) | (refine idxNat (by (first | exact trivial | assumption | omega | (simp only [inK, lenR] at *; omega) | (simp; done) | fail)) (Nx.mk ?_); conv => whnf) | (refine idxPred (by omega) (by (first | exact trivial | assumption | omega | (simp only [inK, lenR] at *; omega) | (simp; done) | fail)) (Nx.mk ?_); conv => whnf) | (refine idxSucc (by (first | exact trivial | assumption | omega | (simp only [inK, lenR] at *; omega) | (simp; done) | fail)) (Nx.mk ?_); conv => whnf) | (refine idxTo (by omega) (by (first | exact trivial | assumption | omega | (simp only [inK, lenR] at *; omega) | (simp; done) | fail)) (Nx.mk ?_); conv => whnf) | (refine mkNat (by omega) (by omega) (Nx.mk ?_); conv => whnf) | (refine ar64 (by omega) (Nx.mk ?_); conv => whnf) | (refine ar_in (by (first | exact trivial | assumption | omega | (simp only [inK, lenR] at *; omega) | (simp; done) | fail)) (Nx.mk ?_); conv => whnf) | (refine nilQ (fun _ => Nx.mk ?_) (Nx.mk ?_) <;> conv => whnf) | (refine condN Try.underlying4 (Nx.mk ?_); conv => whnf) | (refine condN (by (first | exact trivial | assumption | omega | (simp only [inK, lenR] at *; omega) | (simp; done) | fail)) (Nx.mk ?_); conv => whnf) | (refine Nx.mk ?_; conv => whnf))
        (all_goals try first | contradiction | (exfalso; omega))
        refine ⟨r + 1, hI2, by omega, ?_⟩
        rw [hy2]
        ((try conv => whnf); refine ⟨rfl, by rfl, ?_, ?_⟩ <;> ((repeat' ((try conv => whnf); (first | exact trivial | exact Eq.refl _ | exact Or.inl (Eq.refl _) | refine And.intro ?_ ?_ | exact fun _ _ _ _ => Eq.refl _ | refine cellJ (fun _ _ => ?_) | (refine cellB ?_; (conv => whnf); refine And.intro ?_ ?_) | exact Nat.le_of_ble_eq_true (Eq.refl true) | exact ⟨_, _, Eq.refl _, Eq.refl _⟩ | fail))) <;> (try conv => whnf)))
        · show out.length + 1 = (out ++ [(p, ())]).length
          simp
        all_goals
          rename_i k hk
          by_cases e : k < out.length
          · have e2 := beq_ne (Nat.ne_of_lt e)
            simp only [Ct.len, e2, Bool.false_and, Bool.and_false, cond_false, blt_of' e, cond_true, Ct.kill, Ct.cell, cellsA, snoc_at e]
            ((repeat' ((try conv => whnf); (first | exact trivial | exact Eq.refl _ | exact Or.inl (Eq.refl _) | refine And.intro ?_ ?_ | exact fun _ _ _ _ => Eq.refl _ | refine cellJ (fun _ _ => ?_) | (refine cellB ?_; (conv => whnf); refine And.intro ?_ ?_) | exact Nat.le_of_ble_eq_true (Eq.refl true) | exact ⟨_, _, Eq.refl _, Eq.refl _⟩ | fail))) <;> (try conv => whnf))
          · obtain rfl : k = out.length := Nat.le_antisymm (Nat.le_of_lt_succ hk) (Nat.le_of_not_lt e)
            simp only [Ct.len, Nat.beq_refl, Bool.true_and, cond_true, blt_no', cond_false, Ct.kill, Ct.cell, cellsA, snoc_end, Nat.sub_self]
            ((repeat' ((try conv => whnf); (first | exact trivial | exact Eq.refl _ | exact Or.inl (Eq.refl _) | refine And.intro ?_ ?_ | exact fun _ _ _ _ => Eq.refl _ | refine cellJ (fun _ _ => ?_) | (refine cellB ?_; (conv => whnf); refine And.intro ?_ ?_) | exact Nat.le_of_ble_eq_true (Eq.refl true) | exact ⟨_, _, Eq.refl _, Eq.refl _⟩ | fail))) <;> (try conv => whnf))
theorem used_eq {g : Gr} {s t : Int} {l : List Int} (hq : Quest g s t) : shpB (rmG g fun i => !usL l i) s t = dcB g s t l ∧ shp (rmG g fun i => !usL l i) s t = dcP g s t l := by
  have hp : Pair (rmG g fun i => !usL l i) s t := ⟨rm_valid hq.v _, hq.s0, hq.s1, hq.t0, hq.t1⟩
  have e : (fun i => !(!usL l i)) = usL l := funext fun i => Bool.not_not _
  rw [shpB_yes hp, shp_yes hp, bfsM_rm, spF_rm, e]
  with_unfolding_all exact ⟨rfl, rfl⟩
attribute [local irreducible] rmE
theorem sDc_fn (g : Gr) (f : L1) (s t : Int) (h : g.2.1.length ≤ 1048576) (hf : f.1.length ≤ 1048576) : Fn Try.prog 15 true (.cons (GrA g) (.cons (L1A f) (.cons (.I s) (.cons (.I t) .nil)))) [] (.os (rt 16)) [(16, .row 64 (.tab (dcG g f.1 s t).length 1 (cellsA OwA (dcG g f.1 s t))))] := by
  have cv := sVflow_fn g f s t h hf
  cases hv : vflow g f.1 s t with
  | false =>
    rw [hv] at cv
    rw [dcG_n hv]
    (refine Fn_of tysOk Try.func15 rfl rfl (by simp [AV.len, Try.f15]) ⟨?_⟩; conv => whnf)
    (repeat' first | ((with_reducible show ∃ _ : Bool, _); first | (refine ⟨_, [], _, [], _, _, cv, rfl, trivial, ?_, Nx.mk ?_⟩; (focus (((repeat' ((try conv => whnf); (first | exact trivial | exact Eq.refl _ | exact Or.inl (Eq.refl _) | refine And.intro ?_ ?_ | exact fun _ _ _ _ => Eq.refl _ | refine cellJ (fun _ _ => ?_) | (refine cellB ?_; (conv => whnf); refine And.intro ?_ ?_) | exact Nat.le_of_ble_eq_true (Eq.refl true) | exact ⟨_, _, Eq.refl _, Eq.refl _⟩ | fail))) <;> (try conv => whnf)); done)); conv => whnf))  | (refine splitD (fun hs => Nx.mk ?_) (fun hs => Nx.mk ?_) <;> ((try simp only [Ct.len] at hs); revert hs; intro _; conv => whnf)) | (refine splitB (fun _ => Nx.mk ?_) (fun _ => Nx.mk ?_) <;> conv => whnf) | (refine idxNat (by (first | exact trivial | assumption | omega | (simp only [inK, lenR] at *; omega) | (simp; done) | fail)) (Nx.mk ?_); conv => whnf) | (refine idxPred (by omega) (by (first | exact trivial | assumption | omega | (simp only [inK, lenR] at *; omega) | (simp; done) | fail)) (Nx.mk ?_); conv => whnf) | (refine idxSucc (by (first | exact trivial | assumption | omega | (simp only [inK, lenR] at *; omega) | (simp; done) | fail)) (Nx.mk ?_); conv => whnf) | (refine idxTo (by omega) (by (first | exact trivial | assumption | omega | (simp only [inK, lenR] at *; omega) | (simp; done) | fail)) (Nx.mk ?_); conv => whnf) | (refine mkNat (by omega) (by omega) (Nx.mk ?_); conv => whnf) | (refine ar64 (by omega) (Nx.mk ?_); conv => whnf) | (refine ar_in (by (first | exact trivial | assumption | omega | (simp only [inK, lenR] at *; omega) | (simp; done) | fail)) (Nx.mk ?_); conv => whnf) | (refine nilQ (fun _ => Nx.mk ?_) (Nx.mk ?_) <;> conv => whnf) | (refine condN Try.underlying4 (Nx.mk ?_); conv => whnf) | (refine condN (by (first | exact trivial | assumption | omega | (simp only [inK, lenR] at *; omega) | (simp; done) | fail)) (Nx.mk ?_); conv => whnf) | (refine Nx.mk ?_; conv => whnf))
    (all_goals try first | contradiction | (exfalso; omega))
    all_goals
      refine ⟨[(16, nm 17)], rfl, ?_, ?_, ?_, fun _ => ?_⟩
      · ((try conv => whnf); refine ⟨rfl, by rfl, ?_, ?_⟩ <;> ((repeat' ((try conv => whnf); (first | exact trivial | exact Eq.refl _ | exact Or.inl (Eq.refl _) | refine And.intro ?_ ?_ | exact fun _ _ _ _ => Eq.refl _ | refine cellJ (fun _ _ => ?_) | (refine cellB ?_; (conv => whnf); refine And.intro ?_ ?_) | exact Nat.le_of_ble_eq_true (Eq.refl true) | exact ⟨_, _, Eq.refl _, Eq.refl _⟩ | fail))) <;> (try conv => whnf)))
        all_goals (exfalso; omega)
      all_goals ((repeat' ((try conv => whnf); (first | exact trivial | exact Eq.refl _ | exact Or.inl (Eq.refl _) | refine And.intro ?_ ?_ | exact fun _ _ _ _ => Eq.refl _ | refine cellJ (fun _ _ => ?_) | (refine cellB ?_; (conv => whnf); refine And.intro ?_ ?_) | exact Nat.le_of_ble_eq_true (Eq.refl true) | exact ⟨_, _, Eq.refl _, Eq.refl _⟩ | fail))) <;> (try conv => whnf))
  | true =>
    have hV := vflow_iff.1 hv
    have hQ := hV.q
    rw [hv] at cv
    rw [dcG_y hv]
    (refine Fn_of tysOk Try.func15 rfl rfl (by simp [AV.len, Try.f15]) ⟨?_⟩; conv => whnf)
    (repeat' first | ((with_reducible show ∃ _ : Bool, _); first | (refine ⟨_, [], _, [], _, _, cv, rfl, trivial, ?_, Nx.mk ?_⟩; (focus (((repeat' ((try conv => whnf); (first | exact trivial | exact Eq.refl _ | exact Or.inl (Eq.refl _) | refine And.intro ?_ ?_ | exact fun _ _ _ _ => Eq.refl _ | refine cellJ (fun _ _ => ?_) | (refine cellB ?_; (conv => whnf); refine And.intro ?_ ?_) | exact Nat.le_of_ble_eq_true (Eq.refl true) | exact ⟨_, _, Eq.refl _, Eq.refl _⟩ | fail))) <;> (try conv => whnf)); done)); conv => whnf))  | (refine splitD (fun hs => Nx.mk ?_) (fun hs => Nx.mk ?_) <;> ((try simp only [Ct.len] at hs); revert hs; intro _; conv => whnf)) | (refine splitB (fun _ => Nx.mk ?_) (fun _ => Nx.mk ?_) <;> conv => whnf) | (refine idxNat (by (first | exact trivial | assumption | omega | (simp only [inK, lenR] at *; omega) | (simp; done) | fail)) (Nx.mk ?_); conv => whnf) | (refine idxPred (by omega) (by (first | exact trivial | assumption | omega | (simp only [inK, lenR] at *; omega) | (simp; done) | fail)) (Nx.mk ?_); conv => whnf) | (refine idxSucc (by (first | exact trivial | assumption | omega | (simp only [inK, lenR] at *; omega) | (simp; done) | fail)) (Nx.mk ?_); conv => whnf) | (refine idxTo (by omega) (by (first | exact trivial | assumption | omega | (simp only [inK, lenR] at *; omega) | (simp; done) | fail)) (Nx.mk ?_); conv => whnf) | (refine mkNat (by omega) (by omega) (Nx.mk ?_); conv => whnf) | (refine ar64 (by omega) (Nx.mk ?_); conv => whnf) | (refine ar_in (by (first | exact trivial | assumption | omega | (simp only [inK, lenR] at *; omega) | (simp; done) | fail)) (Nx.mk ?_); conv => whnf) | (refine nilQ (fun _ => Nx.mk ?_) (Nx.mk ?_) <;> conv => whnf) | (refine condN Try.underlying4 (Nx.mk ?_); conv => whnf) | (refine condN (by (first | exact trivial | assumption | omega | (simp only [inK, lenR] at *; omega) | (simp; done) | fail)) (Nx.mk ?_); conv => whnf) | (refine Nx.mk ?_; conv => whnf))
    (all_goals try first | contradiction | (exfalso; omega))
    refine loopI tysOk [nm 17, nm 58, nm 52] (fun r : Nat => [(9, .os (rt (nm 17)))]) (fun r => [(nm 25, some (.row 3 (.ints .i64 (dcN g s t f.1 r).1))), (nm 17, some (.row 64 (.tab (dcN g s t f.1 r).2.length 1 (cellsA OwA (dcN g s t f.1 r).2))))]) (fun r => DcI g s t f.1 r) (fun r => (totL (dcN g s t f.1 r).1 g.2.1.length).toNat) 0 (dcI_z hV) ?_ ?_
    · ((try conv => whnf); refine ⟨rfl, by rfl, ?_, ?_⟩ <;> ((repeat' ((try conv => whnf); (first | exact trivial | exact Eq.refl _ | exact Or.inl (Eq.refl _) | refine And.intro ?_ ?_ | exact fun _ _ _ _ => Eq.refl _ | refine cellJ (fun _ _ => ?_) | (refine cellB ?_; (conv => whnf); refine And.intro ?_ ?_) | exact Nat.le_of_ble_eq_true (Eq.refl true) | exact ⟨_, _, Eq.refl _, Eq.refl _⟩ | fail))) <;> (try conv => whnf)))
      all_goals first
        | (exfalso; omega)
        | (focus (simp only [dcN_z]; ((repeat' ((try conv => whnf); (first | exact trivial | exact Eq.refl _ | exact Or.inl (Eq.refl _) | refine And.intro ?_ ?_ | exact fun _ _ _ _ => Eq.refl _ | refine cellJ (fun _ _ => ?_) | (refine cellB ?_; (conv => whnf); refine And.intro ?_ ?_) | exact Nat.le_of_ble_eq_true (Eq.refl true) | exact ⟨_, _, Eq.refl _, Eq.refl _⟩ | fail))) <;> (try conv => whnf)); done))
        | (rw [dcN_z]; done)
        | (rw [dcN_z]; rfl)
    intro r hI
    have hL := hI.lf
    have hLl := hL.len
    have hln := hI.ln
    have hs := fun hb => dcI_s hQ hI hb
    have hr := fun hb => dc_round (l := f.1) (r := r) hQ hL hb
    have he := fun hb => dcI_end hI hb
    have hy := dcN_y (g := g) (s := s) (t := t) (l := f.1) (r := r)
    have hp := fun hb => dc_path (l := (dcN g s t f.1 r).1) hQ hL hb
    have htl := left_tot hL (n := g.2.1.length) (by omega)
    have hr160 : r ≤ 160 := by have := hI.tt; omega
    generalize (dcN g s t f.1 r).1 = l at *
    generalize (dcN g s t f.1 r).2 = out at *
    have hlen := hQ.v.len
    (repeat' first | (refine splitD (fun hs => Nx.mk ?_) (fun hs => Nx.mk ?_) <;> ((try simp only [Ct.len] at hs); revert hs; intro _; conv => whnf)) | (refine splitB (fun _ => Nx.mk ?_) (fun _ => Nx.mk ?_) <;> conv => whnf) | (refine idxNat (by (first | exact trivial | assumption | omega | (simp only [inK, lenR] at *; omega) | (simp; done) | fail)) (Nx.mk ?_); conv => whnf) | (refine idxPred (by omega) (by (first | exact trivial | assumption | omega | (simp only [inK, lenR] at *; omega) | (simp; done) | fail)) (Nx.mk ?_); conv => whnf) | (refine idxSucc (by (first | exact trivial | assumption | omega | (simp only [inK, lenR] at *; omega) | (simp; done) | fail)) (Nx.mk ?_); conv => whnf) | (refine idxTo (by omega) (by (first | exact trivial | assumption | omega | (simp only [inK, lenR] at *; omega) | (simp; done) | fail)) (Nx.mk ?_); conv => whnf) | (refine mkNat (by omega) (by omega) (Nx.mk ?_); conv => whnf) | (refine ar64 (by omega) (Nx.mk ?_); conv => whnf) | (refine ar_in (by (first | exact trivial | assumption | omega | (simp only [inK, lenR] at *; omega) | (simp; done) | fail)) (Nx.mk ?_); conv => whnf) | (refine nilQ (fun _ => Nx.mk ?_) (Nx.mk ?_) <;> conv => whnf) | (refine condN Try.underlying4 (Nx.mk ?_); conv => whnf) | (refine condN (by (first | exact trivial | assumption | omega | (simp only [inK, lenR] at *; omega) | (simp; done) | fail)) (Nx.mk ?_); conv => whnf) | (refine Nx.mk ?_; conv => whnf))
    (all_goals try first | contradiction | (exfalso; omega))
    refine loopI tysOk [nm 52] (fun i : Nat => [(12, .I i)]) (fun i => [(nm 11, some (.box (.cons (.I g.1) (.cons (.os (rt (nm 52))) .nil)))), (nm 52, some (.row 61 (.tab (rmE (fun i => !usL l i) g.2.1 i).length 3 (cellsA EdgA (rmE (fun i => !usL l i) g.2.1 i)))))]) (fun i => i ≤ g.2.1.length) (fun i => g.2.1.length - i) 0 (Nat.zero_le _) ?_ ?_
    · ((try conv => whnf); refine ⟨rfl, by rfl, ?_, ?_⟩ <;> ((repeat' ((try conv => whnf); (first | exact trivial | exact Eq.refl _ | exact Or.inl (Eq.refl _) | refine And.intro ?_ ?_ | exact fun _ _ _ _ => Eq.refl _ | refine cellJ (fun _ _ => ?_) | (refine cellB ?_; (conv => whnf); refine And.intro ?_ ?_) | exact Nat.le_of_ble_eq_true (Eq.refl true) | exact ⟨_, _, Eq.refl _, Eq.refl _⟩ | fail))) <;> (try conv => whnf)))
      all_goals (rw [rmE_zero]; rfl)
    intro i hi
    by_cases hlt : i < g.2.1.length
    · have rl := rmE_len (B := fun i => !usL l i) (es := g.2.1) (n := i)
      have e1 : usL l i = decide (0 < l.getD i 0) := by with_unfolding_all rfl
      have ry := rmE_yes (B := fun i => !usL l i) (es := g.2.1) (n := i)
      have rn := rmE_no (B := fun i => !usL l i) (es := g.2.1) (n := i)
      by_cases hu : 0 < l.getD i 0
      · have en := rn (by rw [e1, decide_eq_true hu]; rfl)
        generalize rmE (fun i => !usL l i) g.2.1 i = R at en rl
        clear ry rn
        (repeat' first | ((refine VC_draw (sf := []) tysOk (by kernel_rfl) (by kernel_rfl) (Nx.mk ?_); conv => whnf)) | (refine splitD (fun hs => Nx.mk ?_) (fun hs => Nx.mk ?_) <;> ((try simp only [Ct.len] at hs); revert hs; intro _; conv => whnf)) | (refine splitB (fun _ => Nx.mk ?_) (fun _ => Nx.mk ?_) <;> conv => whnf) | (refine idxNat (by (first | exact trivial | assumption | omega | (simp only [inK, lenR] at *; omega) | (simp; done) | fail)) (Nx.mk ?_); conv => whnf) | (refine idxPred (by omega) (by (first | exact trivial | assumption | omega | (simp only [inK, lenR] at *; omega) | (simp; done) | fail)) (Nx.mk ?_); conv => whnf) | (refine idxSucc (by (first | exact trivial | assumption | omega | (simp only [inK, lenR] at *; omega) | (simp; done) | fail)) (Nx.mk ?_); conv => whnf) | (refine idxTo (by omega) (by (first | exact trivial | assumption | omega | (simp only [inK, lenR] at *; omega) | (simp; done) | fail)) (Nx.mk ?_); conv => whnf) | (refine mkNat (by omega) (by omega) (Nx.mk ?_); conv => whnf) | (refine ar64 (by omega) (Nx.mk ?_); conv => whnf) | (refine ar_in (by (first | exact trivial | assumption | omega | (simp only [inK, lenR] at *; omega) | (simp; done) | fail)) (Nx.mk ?_); conv => whnf) | (refine nilQ (fun _ => Nx.mk ?_) (Nx.mk ?_) <;> conv => whnf) | (refine condN Try.underlying4 (Nx.mk ?_); conv => whnf) | (refine condN (by (first | exact trivial | assumption | omega | (simp only [inK, lenR] at *; omega) | (simp; done) | fail)) (Nx.mk ?_); conv => whnf) | (refine Nx.mk ?_; conv => whnf))
        (all_goals try first | contradiction | (exfalso; omega))
        refine ⟨i + 1, by omega, by omega, ?_⟩
        ((try conv => whnf); refine ⟨rfl, by rfl, ?_, ?_⟩ <;> ((repeat' ((try conv => whnf); (first | exact trivial | exact Eq.refl _ | exact Or.inl (Eq.refl _) | refine And.intro ?_ ?_ | exact fun _ _ _ _ => Eq.refl _ | refine cellJ (fun _ _ => ?_) | (refine cellB ?_; (conv => whnf); refine And.intro ?_ ?_) | exact Nat.le_of_ble_eq_true (Eq.refl true) | exact ⟨_, _, Eq.refl _, Eq.refl _⟩ | fail))) <;> (try conv => whnf)))
        all_goals rw [en]
        all_goals first
          | (focus (rename_i k hk; by_cases e : k < R.length; (simp only [blt_of' e, cond_true, cellsA, snoc_at e]; ((repeat' ((try conv => whnf); (first | exact trivial | exact Eq.refl _ | exact Or.inl (Eq.refl _) | refine And.intro ?_ ?_ | exact fun _ _ _ _ => Eq.refl _ | refine cellJ (fun _ _ => ?_) | (refine cellB ?_; (conv => whnf); refine And.intro ?_ ?_) | exact Nat.le_of_ble_eq_true (Eq.refl true) | exact ⟨_, _, Eq.refl _, Eq.refl _⟩ | fail))) <;> (try conv => whnf))); (obtain rfl : k = R.length := Nat.le_antisymm (Nat.le_of_lt_succ hk) (Nat.le_of_not_lt e)); simp only [blt_no', cond_false, cellsA, snoc_end, Nat.sub_self]; ((repeat' ((try conv => whnf); (first | exact trivial | exact Eq.refl _ | exact Or.inl (Eq.refl _) | refine And.intro ?_ ?_ | exact fun _ _ _ _ => Eq.refl _ | refine cellJ (fun _ _ => ?_) | (refine cellB ?_; (conv => whnf); refine And.intro ?_ ?_) | exact Nat.le_of_ble_eq_true (Eq.refl true) | exact ⟨_, _, Eq.refl _, Eq.refl _⟩ | fail))) <;> (try conv => whnf)); done))
          | (simp; done)
          | (focus (((repeat' ((try conv => whnf); (first | exact trivial | exact Eq.refl _ | exact Or.inl (Eq.refl _) | refine And.intro ?_ ?_ | exact fun _ _ _ _ => Eq.refl _ | refine cellJ (fun _ _ => ?_) | (refine cellB ?_; (conv => whnf); refine And.intro ?_ ?_) | exact Nat.le_of_ble_eq_true (Eq.refl true) | exact ⟨_, _, Eq.refl _, Eq.refl _⟩ | fail))) <;> (try conv => whnf)); done))
      · have en := ry (by rw [e1, decide_eq_false hu]; rfl)
        generalize rmE (fun i => !usL l i) g.2.1 i = R at en rl
        clear ry rn
        (repeat' first | ((refine VC_draw (sf := []) tysOk (by kernel_rfl) (by kernel_rfl) (Nx.mk ?_); conv => whnf)) | (refine splitD (fun hs => Nx.mk ?_) (fun hs => Nx.mk ?_) <;> ((try simp only [Ct.len] at hs); revert hs; intro _; conv => whnf)) | (refine splitB (fun _ => Nx.mk ?_) (fun _ => Nx.mk ?_) <;> conv => whnf) | (refine idxNat (by (first | exact trivial | assumption | omega | (simp only [inK, lenR] at *; omega) | (simp; done) | fail)) (Nx.mk ?_); conv => whnf) | (refine idxPred (by omega) (by (first | exact trivial | assumption | omega | (simp only [inK, lenR] at *; omega) | (simp; done) | fail)) (Nx.mk ?_); conv => whnf) | (refine idxSucc (by (first | exact trivial | assumption | omega | (simp only [inK, lenR] at *; omega) | (simp; done) | fail)) (Nx.mk ?_); conv => whnf) | (refine idxTo (by omega) (by (first | exact trivial | assumption | omega | (simp only [inK, lenR] at *; omega) | (simp; done) | fail)) (Nx.mk ?_); conv => whnf) | (refine mkNat (by omega) (by omega) (Nx.mk ?_); conv => whnf) | (refine ar64 (by omega) (Nx.mk ?_); conv => whnf) | (refine ar_in (by (first | exact trivial | assumption | omega | (simp only [inK, lenR] at *; omega) | (simp; done) | fail)) (Nx.mk ?_); conv => whnf) | (refine nilQ (fun _ => Nx.mk ?_) (Nx.mk ?_) <;> conv => whnf) | (refine condN Try.underlying4 (Nx.mk ?_); conv => whnf) | (refine condN (by (first | exact trivial | assumption | omega | (simp only [inK, lenR] at *; omega) | (simp; done) | fail)) (Nx.mk ?_); conv => whnf) | (refine Nx.mk ?_; conv => whnf))
        (all_goals try first | contradiction | (exfalso; omega))
        refine ⟨i + 1, by omega, by omega, ?_⟩
        ((try conv => whnf); refine ⟨rfl, by rfl, ?_, ?_⟩ <;> ((repeat' ((try conv => whnf); (first | exact trivial | exact Eq.refl _ | exact Or.inl (Eq.refl _) | refine And.intro ?_ ?_ | exact fun _ _ _ _ => Eq.refl _ | refine cellJ (fun _ _ => ?_) | (refine cellB ?_; (conv => whnf); refine And.intro ?_ ?_) | exact Nat.le_of_ble_eq_true (Eq.refl true) | exact ⟨_, _, Eq.refl _, Eq.refl _⟩ | fail))) <;> (try conv => whnf)))
        all_goals rw [en]
        all_goals first
          | (focus (((repeat' ((try conv => whnf); (first | exact trivial | exact Eq.refl _ | exact Or.inl (Eq.refl _) | refine And.intro ?_ ?_ | exact fun _ _ _ _ => Eq.refl _ | refine cellJ (fun _ _ => ?_) | (refine cellB ?_; (conv => whnf); refine And.intro ?_ ?_) | exact Nat.le_of_ble_eq_true (Eq.refl true) | exact ⟨_, _, Eq.refl _, Eq.refl _⟩ | fail))) <;> (try conv => whnf)); done))
          | skip
    · obtain rfl : i = g.2.1.length := by omega
      obtain ⟨u1, u2⟩ := used_eq (l := l) hQ
      have hul : (rmE (fun i => !usL l i) g.2.1 g.2.1.length).length ≤ g.2.1.length := rmE_len
      have cs : Fn Try.prog 40 true (.cons (GrA (g.1, rmE (fun i => !usL l i) g.2.1 g.2.1.length, ())) (.cons (.I s) (.cons (.I t) .nil))) [] (.tup (.cons (.agg (.cons (.os (rt 16)) .nil)) (.cons (.b (shpB (rmG g fun i => !usL l i) s t)) .nil))) [(16, .row 3 (.ints .i64 (shp (rmG g fun i => !usL l i) s t)))] := sSp_fn (rmG g fun i => !usL l i) s t (by show (rmE _ _ _).length ≤ _; omega)
      rw [u1, u2] at cs
      clear u1 u2
      generalize rmE (fun i => !usL l i) g.2.1 g.2.1.length = R at *
      cases hb : dcB g s t l with
      | false =>
        rw [hb] at cs
        rw [he hb]
        (repeat' first | ((with_reducible show ∃ _ : Bool, _); first | (refine ⟨_, [], _, [], _, _, cs, rfl, trivial, ?_, Nx.mk ?_⟩; (focus (((repeat' ((try conv => whnf); (first | exact trivial | exact Eq.refl _ | exact Or.inl (Eq.refl _) | refine And.intro ?_ ?_ | exact fun _ _ _ _ => Eq.refl _ | refine cellJ (fun _ _ => ?_) | (refine cellB ?_; (conv => whnf); refine And.intro ?_ ?_) | exact Nat.le_of_ble_eq_true (Eq.refl true) | exact ⟨_, _, Eq.refl _, Eq.refl _⟩ | fail))) <;> (try conv => whnf)); done)); conv => whnf))  | (refine splitD (fun hs => Nx.mk ?_) (fun hs => Nx.mk ?_) <;> ((try simp only [Ct.len] at hs); revert hs; intro _; conv => whnf)) | (refine splitB (fun _ => Nx.mk ?_) (fun _ => Nx.mk ?_) <;> conv => whnf) | (refine idxNat (by (first | exact trivial | assumption | omega | (simp only [inK, lenR] at *; omega) | (simp; done) | fail)) (Nx.mk ?_); conv => whnf) | (refine idxPred (by omega) (by (first | exact trivial | assumption | omega | (simp only [inK, lenR] at *; omega) | (simp; done) | fail)) (Nx.mk ?_); conv => whnf) | (refine idxSucc (by (first | exact trivial | assumption | omega | (simp only [inK, lenR] at *; omega) | (simp; done) | fail)) (Nx.mk ?_); conv => whnf) | (refine idxTo (by omega) (by (first | exact trivial | assumption | omega | (simp only [inK, lenR] at *; omega) | (simp; done) | fail)) (Nx.mk ?_); conv => whnf) | (refine mkNat (by omega) (by omega) (Nx.mk ?_); conv => whnf) | (refine ar64 (by omega) (Nx.mk ?_); conv => whnf) | (refine ar_in (by (first | exact trivial | assumption | omega | (simp only [inK, lenR] at *; omega) | (simp; done) | fail)) (Nx.mk ?_); conv => whnf) | (refine nilQ (fun _ => Nx.mk ?_) (Nx.mk ?_) <;> conv => whnf) | (refine condN Try.underlying4 (Nx.mk ?_); conv => whnf) | (refine condN (by (first | exact trivial | assumption | omega | (simp only [inK, lenR] at *; omega) | (simp; done) | fail)) (Nx.mk ?_); conv => whnf) | (refine Nx.mk ?_; conv => whnf))
        (all_goals try first | contradiction | (exfalso; omega))
        refine ⟨[(16, nm 17)], rfl, ?_, ?_, ?_, fun _ => ?_⟩
        · ((try conv => whnf); refine ⟨rfl, by rfl, ?_, ?_⟩ <;> ((repeat' ((try conv => whnf); (first | exact trivial | exact Eq.refl _ | exact Or.inl (Eq.refl _) | refine And.intro ?_ ?_ | exact fun _ _ _ _ => Eq.refl _ | refine cellJ (fun _ _ => ?_) | (refine cellB ?_; (conv => whnf); refine And.intro ?_ ?_) | exact Nat.le_of_ble_eq_true (Eq.refl true) | exact ⟨_, _, Eq.refl _, Eq.refl _⟩ | fail))) <;> (try conv => whnf)))
        all_goals ((repeat' ((try conv => whnf); (first | exact trivial | exact Eq.refl _ | exact Or.inl (Eq.refl _) | refine And.intro ?_ ?_ | exact fun _ _ _ _ => Eq.refl _ | refine cellJ (fun _ _ => ?_) | (refine cellB ?_; (conv => whnf); refine And.intro ?_ ?_) | exact Nat.le_of_ble_eq_true (Eq.refl true) | exact ⟨_, _, Eq.refl _, Eq.refl _⟩ | fail))) <;> (try conv => whnf))
      | true =>
        rw [hb] at cs
        obtain ⟨p1, p2, p3, p4⟩ := hp hb
        have hI2 := hs hb
        have hr2 := (hr hb).2
        have ht2 := left_tot hI2.lf (n := g.2.1.length) (by rw [hI2.lf.len]; exact Nat.le_refl _)
        have hy2 := hy hb
        clear hy hs hr he hp
        generalize dcP g s t l = p at *
        (repeat' first | ((with_reducible show ∃ _ : Bool, _); first | (refine ⟨_, [], _, [], _, _, cs, rfl, trivial, ?_, Nx.mk ?_⟩; (focus (((repeat' ((try conv => whnf); (first | exact trivial | exact Eq.refl _ | exact Or.inl (Eq.refl _) | refine And.intro ?_ ?_ | exact fun _ _ _ _ => Eq.refl _ | refine cellJ (fun _ _ => ?_) | (refine cellB ?_; (conv => whnf); refine And.intro ?_ ?_) | exact Nat.le_of_ble_eq_true (Eq.refl true) | exact ⟨_, _, Eq.refl _, Eq.refl _⟩ | fail))) <;> (try conv => whnf)); done)); conv => whnf))  | (refine splitD (fun hs => Nx.mk ?_) (fun hs => Nx.mk ?_) <;> ((try simp only [Ct.len] at hs); revert hs; intro _; conv => whnf)) | (refine splitB (fun _ => Nx.mk ?_) (fun _ => Nx.mk ?_) <;> conv => whnf) | (refine idxNat (by (first | exact trivial | assumption | omega | (simp only [inK, lenR] at *; omega) | (simp; done) | fail)) (Nx.mk ?_); conv => whnf) | (refine idxPred (by omega) (by (first | exact trivial | assumption | omega | (simp only [inK, lenR] at *; omega) | (simp; done) | fail)) (Nx.mk ?_); conv => whnf) | (refine idxSucc (by (first | exact trivial | assumption | omega | (simp only [inK, lenR] at *; omega) | (simp; done) | fail)) (Nx.mk ?_); conv => whnf) | (refine idxTo (by omega) (by (first | exact trivial | assumption | omega | (simp only [inK, lenR] at *; omega) | (simp; done) | fail)) (Nx.mk ?_); conv => whnf) | (refine mkNat (by omega) (by omega) (Nx.mk ?_); conv => whnf) | (refine ar64 (by omega) (Nx.mk ?_); conv => whnf) | (refine ar_in (by (first | exact trivial | assumption | omega | (simp only [inK, lenR] at *; omega) | (simp; done) | fail)) (Nx.mk ?_); conv => whnf) | (refine nilQ (fun _ => Nx.mk ?_) (Nx.mk ?_) <;> conv => whnf) | (refine condN Try.underlying4 (Nx.mk ?_); conv => whnf) | (refine condN (by (first | exact trivial | assumption | omega | (simp only [inK, lenR] at *; omega) | (simp; done) | fail)) (Nx.mk ?_); conv => whnf) | (refine Nx.mk ?_; conv => whnf))
        (all_goals try first | contradiction | (exfalso; omega))
        refine loopI tysOk [] (fun i : Nat => [(15, .I ((i : Int) + 1))]) (fun i => [(nm 25, some (.row 3 (.ints .i64 (decP g p l i))))]) (fun i => i ≤ p.length - 1) (fun i => p.length - 1 - i) 0 (Nat.zero_le _) ?_ ?_
        · ((try conv => whnf); refine ⟨rfl, by rfl, ?_, ?_⟩ <;> ((repeat' ((try conv => whnf); (first | exact trivial | exact Eq.refl _ | exact Or.inl (Eq.refl _) | refine And.intro ?_ ?_ | exact fun _ _ _ _ => Eq.refl _ | refine cellJ (fun _ _ => ?_) | (refine cellB ?_; (conv => whnf); refine And.intro ?_ ?_) | exact Nat.le_of_ble_eq_true (Eq.refl true) | exact ⟨_, _, Eq.refl _, Eq.refl _⟩ | fail))) <;> (try conv => whnf)))
          all_goals (rw [decP_z]; done)
        intro i hi
        obtain ⟨d1, d2, d3, d4⟩ := decP_ok hL p1 p4 (i := i) hi
        by_cases hlt : i < p.length - 1
        · have he1 := pe_ok p1 hlt
          have hdl := d3.len
          have hb1 := d3.rng (pe g p i).toNat (by rw [d3.len]; omega)
          have ds1 := decP_s (g := g) (p := p) (l := l) (i := i)
          have ce := sEb_fn g (p.getD i 0) (p.getD (i + 1) 0) h
          have ee : eb g (p.getD i 0) (p.getD (i + 1) 0) = pe g p i := by with_unfolding_all rfl
          rw [ee] at ce
          (repeat' first | ((with_reducible show ∃ _ : Bool, _); first | (refine ⟨_, [], _, [], _, _, ce, rfl, trivial, ?_, Nx.mk ?_⟩; (focus (((repeat' ((try conv => whnf); (first | exact trivial | exact Eq.refl _ | exact Or.inl (Eq.refl _) | refine And.intro ?_ ?_ | exact fun _ _ _ _ => Eq.refl _ | refine cellJ (fun _ _ => ?_) | (refine cellB ?_; (conv => whnf); refine And.intro ?_ ?_) | exact Nat.le_of_ble_eq_true (Eq.refl true) | exact ⟨_, _, Eq.refl _, Eq.refl _⟩ | fail))) <;> (try conv => whnf)); done)); conv => whnf)) | ((refine VC_draw (sf := []) tysOk (by kernel_rfl) (by kernel_rfl) (Nx.mk ?_); conv => whnf)) | (refine idxInt i (by omega) (by (first | exact trivial | assumption | omega | (simp only [inK, lenR] at *; omega) | (simp; done) | fail)) (Nx.mk ?_); conv => whnf) | (refine splitD (fun hs => Nx.mk ?_) (fun hs => Nx.mk ?_) <;> ((try simp only [Ct.len] at hs); revert hs; intro _; conv => whnf)) | (refine splitB (fun _ => Nx.mk ?_) (fun _ => Nx.mk ?_) <;> conv => whnf) | (refine idxNat (by (first | exact trivial | assumption | omega | (simp only [inK, lenR] at *; omega) | (simp; done) | fail)) (Nx.mk ?_); conv => whnf) | (refine idxPred (by omega) (by (first | exact trivial | assumption | omega | (simp only [inK, lenR] at *; omega) | (simp; done) | fail)) (Nx.mk ?_); conv => whnf) | (refine idxSucc (by (first | exact trivial | assumption | omega | (simp only [inK, lenR] at *; omega) | (simp; done) | fail)) (Nx.mk ?_); conv => whnf) | (refine idxTo (by omega) (by (first | exact trivial | assumption | omega | (simp only [inK, lenR] at *; omega) | (simp; done) | fail)) (Nx.mk ?_); conv => whnf) | (refine mkNat (by omega) (by omega) (Nx.mk ?_); conv => whnf) | (refine ar64 (by omega) (Nx.mk ?_); conv => whnf) | (refine ar_in (by (first | exact trivial | assumption | omega | (simp only [inK, lenR] at *; omega) | (simp; done) | fail)) (Nx.mk ?_); conv => whnf) | (refine nilQ (fun _ => Nx.mk ?_) (Nx.mk ?_) <;> conv => whnf) | (refine condN Try.underlying4 (Nx.mk ?_); conv => whnf) | (refine condN (by (first | exact trivial | assumption | omega | (simp only [inK, lenR] at *; omega) | (simp; done) | fail)) (Nx.mk ?_); conv => whnf) | (refine Nx.mk ?_; conv => whnf))
          (all_goals try first | contradiction | (exfalso; omega))
          refine ⟨i + 1, by omega, by omega, ?_⟩
          ((try conv => whnf); refine ⟨rfl, by rfl, ?_, ?_⟩ <;> ((repeat' ((try conv => whnf); (first | exact trivial | exact Eq.refl _ | exact Or.inl (Eq.refl _) | refine And.intro ?_ ?_ | exact fun _ _ _ _ => Eq.refl _ | refine cellJ (fun _ _ => ?_) | (refine cellB ?_; (conv => whnf); refine And.intro ?_ ?_) | exact Nat.le_of_ble_eq_true (Eq.refl true) | exact ⟨_, _, Eq.refl _, Eq.refl _⟩ | fail))) <;> (try conv => whnf)))
          all_goals first | (focus (omega; done)) | (rw [ds1]; done)
        · obtain rfl : i = p.length - 1 := by omega
          have hout : out.length ≤ 160 := by omega
          (repeat' first | (refine condN (show out.length + 1 ≤ 1073741824 by omega) (Nx.mk ?_); conv => whnf) | (refine splitD (fun hs => Nx.mk ?_) (fun hs => Nx.mk ?_) <;> ((try simp only [Ct.len] at hs); revert hs; intro _; conv => whnf)) | (refine splitB (fun _ => Nx.mk ?_) (fun _ => Nx.mk ?_) <;> conv => whnf) | (refine idxNat (by (first | exact trivial | assumption | omega | (simp only [inK, lenR] at *; omega) | (simp; done) | fail)) (Nx.mk ?_); conv => whnf) | (refine idxPred (by omega) (by (first | exact trivial | assumption | omega | (simp only [inK, lenR] at *; omega) | (simp; done) | fail)) (Nx.mk ?_); conv => whnf) | (refine idxSucc (by (first | exact trivial | assumption | omega | (simp only [inK, lenR] at *; omega) | (simp; done) | fail)) (Nx.mk ?_); conv => whnf) | (refine idxTo (by omega) (by (first | exact trivial | assumption | omega | (simp only [inK, lenR] at *; omega) | (simp; done) | fail)) (Nx.mk ?_); conv => whnf) | (refine mkNat (by omega) (by omega) (Nx.mk ?_); conv => whnf) | (refine ar64 (by omega) (Nx.mk ?_); conv => whnf) | (refine ar_in (by (first | exact trivial | assumption | omega | (simp only [inK, lenR] at *; omega) | (simp; done) | fail)) (Nx.mk ?_); conv => whnf) | (refine nilQ (fun _ => Nx.mk ?_) (Nx.mk ?_) <;> conv => whnf) | (refine condN Try.underlying4 (Nx.mk ?_); conv => whnf) | (refine condN (by (first | exact trivial | assumption | omega | (simp only [inK, lenR] at *; omega) | (simp; done) | fail)) (Nx.mk ?_); conv => whnf) | (refine Nx.mk ?_; conv => whnf))
          (all_goals try first | contradiction | (exfalso; omega))
          refine ⟨r + 1, hI2, by omega, ?_⟩
          rw [hy2]
          ((try conv => whnf); refine ⟨rfl, by rfl, ?_, ?_⟩ <;> ((repeat' ((try conv => whnf); (first | exact trivial | exact Eq.refl _ | exact Or.inl (Eq.refl _) | refine And.intro ?_ ?_ | exact fun _ _ _ _ => Eq.refl _ | refine cellJ (fun _ _ => ?_) | (refine cellB ?_; (conv => whnf); refine And.intro ?_ ?_) | exact Nat.le_of_ble_eq_true (Eq.refl true) | exact ⟨_, _, Eq.refl _, Eq.refl _⟩ | fail))) <;> (try conv => whnf)))
          · show out.length + 1 = (out ++ [(p, ())]).length
            simp
          all_goals
            rename_i k hk
            by_cases e : k < out.length
            · have e2 := beq_ne (Nat.ne_of_lt e)
              simp only [Ct.len, e2, Bool.false_and, Bool.and_false, cond_false, blt_of' e, cond_true, Ct.kill, Ct.cell, cellsA, snoc_at e]
              ((repeat' ((try conv => whnf); (first | exact trivial | exact Eq.refl _ | exact Or.inl (Eq.refl _) | refine And.intro ?_ ?_ | exact fun _ _ _ _ => Eq.refl _ | refine cellJ (fun _ _ => ?_) | (refine cellB ?_; (conv => whnf); refine And.intro ?_ ?_) | exact Nat.le_of_ble_eq_true (Eq.refl true) | exact ⟨_, _, Eq.refl _, Eq.refl _⟩ | fail))) <;> (try conv => whnf))
            · obtain rfl : k = out.length := Nat.le_antisymm (Nat.le_of_lt_succ hk) (Nat.le_of_not_lt e)
              simp only [Ct.len, Nat.beq_refl, Bool.true_and, cond_true, blt_no', cond_false, Ct.kill, Ct.cell, cellsA, snoc_end, Nat.sub_self]
              ((repeat' ((try conv => whnf); (first | exact trivial | exact Eq.refl _ | exact Or.inl (Eq.refl _) | refine And.intro ?_ ?_ | exact fun _ _ _ _ => Eq.refl _ | refine cellJ (fun _ _ => ?_) | (refine cellB ?_; (conv => whnf); refine And.intro ?_ ?_) | exact Nat.le_of_ble_eq_true (Eq.refl true) | exact ⟨_, _, Eq.refl _, Eq.refl _⟩ | fail))) <;> (try conv => whnf))
theorem dc_ex {g : Gr} {s t : Int} {f : List Int} (hq : Quest g s t) : ∀ (n r : Nat), 161 - r ≤ n → DcI g s t f r → ∃ r', DcI g s t f r' ∧ dcB g s t (dcN g s t f r').1 = false := by
  intro n
  induction n with
  | zero =>
    intro r hn h
    have h1 := left_tot h.lf (n := g.2.1.length) (by rw [h.lf.len]; exact Nat.le_refl _)
    have h2 := h.tt
    omega
  | succ n ih =>
    intro r hn h
    cases hb : dcB g s t (dcN g s t f r).1 with
    | false => exact ⟨r, h, hb⟩
    | true => exact ih (r + 1) (by omega) (dcI_s hq h hb)
theorem psum_bd {xs : List L1} {c : Nat} (h : ∀ i, i < xs.length → (xs.getD i default).1.length ≤ c) : ∀ {n : Nat}, n ≤ xs.length → psum szL1 xs n ≤ c * n := by
  intro n
  induction n with
  | zero => intro _; rw [psum_zero]; exact Nat.zero_le _
  | succ n ih =>
    intro hn
    have h1 := ih (by omega)
    have h2 := h n (by omega)
    rw [psum_succ (by omega), Nat.mul_succ]
    show psum szL1 xs n + (xs.getD n default).1.length ≤ _
    omega
theorem dcG_tot {g : Gr} {f : List Int} {s t : Int} : tot szL1 (dcG g f s t) ≤ 1440 := by
  have key : ∀ xs : List L1, xs.length ≤ 160 → (∀ i, i < xs.length → (xs.getD i default).1.length ≤ 8) → tot szL1 xs ≤ 1440 := fun xs h1 h2 => by
    have h3 := psum_bd h2 (Nat.le_refl _)
    have h4 : tot szL1 xs = xs.length + psum szL1 xs xs.length := rfl
    omega
  cases hv : vflow g f s t with
  | false => rw [dcG_n hv]; exact key [] (by simp) (fun i hi => absurd hi (Nat.not_lt_zero i))
  | true =>
    have hV := vflow_iff.1 hv
    obtain ⟨r, h1, h2⟩ := dc_ex hV.q 161 0 (by omega) (dcI_z hV)
    rw [dcG_y hv, dcI_end h1 h2]
    have h3 := left_tot h1.lf (n := g.2.1.length) (by rw [h1.lf.len]; exact Nat.le_refl _)
    have h4 := h1.tt
    exact key _ (by rw [h1.ln]; omega) (fun i hi => h1.at_ i (by rw [h1.ln] at hi; exact hi))
end Go.Proofs.Ytmnbpamaiboghaa
