/-
  The nodes that are reached, of the program.
-/
import Derived.Test.YtmnbpamaiboghaaSaHm
import Derived.Test.YtmnbpamaiboghaaSaHi
import Derived.Test.YtmnbpamaiboghaaSaHc
namespace Go.Proofs.Ytmnbpamaiboghaa
set_option linter.unusedVariables false
set_option linter.unusedSimpArgs false
set_option maxRecDepth 100000
set_option maxHeartbeats 4000000
attribute [local irreducible] Fn
def kb (m : Pairs) : List (Int × Bool) := m.map fun p => (p.1, true)
theorem kb_get {m : Pairs} {x : Int} : mgetB (kb m) x = mhas m x := by
  unfold mgetB mhas kb
  induction m with
  | nil => rfl
  | cons p m ih =>
    simp only [List.map_cons]
    unfold mfind
    by_cases e : x = p.1
    · rw [if_pos e, if_pos e]; rfl
    · rw [if_neg e, if_neg e]; exact ih
theorem kb_has {m : Pairs} {x : Int} : mhas (kb m) x = mhas m x := by
  rw [Bool.eq_iff_iff, mhas_iff, mhas_iff]
  unfold kb
  simp
theorem kb_set {m : Pairs} {x v : Int} (h : ¬ mhas m x = true) : mset (kb m) x true = kb (m ++ [(x, v)]) := by
  rw [mset_new (by rw [kb_has]; exact h)]
  simp [kb]
theorem kb_keys {m : Pairs} : (kb m).map (·.1) = keys m := by simp [kb, keys]
theorem kb_one {x v : Int} : kb [(x, v)] = [(x, true)] := rfl
theorem rnN_up {s : List Bool} : ∀ {n : Nat}, (rnN s n).Pairwise (fun a b => a < b) := by
  intro n
  induction n with
  | zero => exact List.Pairwise.nil
  | succ n ih =>
    unfold rnN
    split
    · rw [List.pairwise_append]
      refine ⟨ih, by simp, fun a ha b hb => ?_⟩
      rw [List.mem_singleton] at hb
      have := (rnN_mem.1 ha).2.1
      omega
    · exact ih
theorem sorted_eq' {xs ys : List Int} (hx : xs.Pairwise (fun a b => a < b)) (hn : ys.Nodup) (hm : ∀ x, x ∈ xs ↔ x ∈ ys) : xs = sortI ys := by
  have hxn : xs.Nodup := hx.imp (fun h e => by omega)
  have hp : xs.Perm (sortI ys) := ((List.perm_ext_iff_of_nodup hxn hn).2 hm).trans sortI_perm.symm
  exact List.Perm.eq_of_pairwise (le := fun a b => a ≤ b) (fun a b _ _ h1 h2 => by omega) (hx.imp (fun h => by omega)) sortI_up hp
theorem rnL_eq {g : Gr} {a : Int} (hv : ValidG g) (h0 : 0 ≤ a) (h1 : a < g.1) : rnL g a = sortI (keys (bfsM g usAll a)) := by
  have hI := bfsM_inv (us := usAll) hv h0 h1
  refine sorted_eq' rnN_up hI.nd (fun x => ?_)
  unfold rnL
  rw [rnN_mem]
  have hg1 := hv.lo
  constructor
  · rintro ⟨h2, h3, h4⟩
    exact mhas_iff.1 ((found_iff ⟨hv, h0, h1, h2, by omega⟩).2 h4)
  · intro hx
    have hr := hI.rng x hx
    exact ⟨hr.1, by omega, (found_iff ⟨hv, h0, h1, hr.1, hr.2⟩).1 (mhas_iff.2 hx)⟩
open Classical in
/-- The nodes that are reached, or none. -/
noncomputable def rnG (g : Gr) (a : Int) : List Int := if ValidG g ∧ 0 ≤ a ∧ a < g.1 then rnL g a else []
theorem rnG_yes {g : Gr} {a : Int} (h : ValidG g ∧ 0 ≤ a ∧ a < g.1) : rnG g a = rnL g a := if_pos h
theorem rnG_no {g : Gr} {a : Int} (h : ¬ (ValidG g ∧ 0 ≤ a ∧ a < g.1)) : rnG g a = [] := if_neg h
theorem rnL_len {g : Gr} {a : Int} (hv : ValidG g) : (rnL g a).length ≤ 8 := by
  have := rnN_len (s := reachL g [a]) (n := g.1.toNat)
  have := hv.hi
  unfold rnL
  omega
attribute [local irreducible] addAll bfsL idxs sr mset mhas mgetI mgetB keys bfsM chain kb sortI rnL rnG
theorem iRn_fn (g : Gr) (s : Int) (h : g.2.1.length ≤ 1048576) : Fn Try.prog 27 true (.cons (GrA g) (.cons (.I s) .nil)) [] (.os (rt 16)) [(16, .row 3 (.ints .i64 (rnG g s)))] := by
  by_cases hp : ValidG g ∧ 0 ≤ s ∧ s < g.1
  · obtain ⟨hv, h0, h1⟩ := hp
    have hlen := hv.len
    have hg1 := hv.lo
    have hg2 := hv.hi
    have hw : IntKind.wrap .i64 (g.1 - 1) = g.1 - 1 := topN_eq hv.lo hv.hi
    have cv := (iValid_fn g h).tt (validG_iff.2 hv)
    have cn := (hasNode_fn g s).tt (by rw [decide_eq_true]; omega)
    rw [rnG_yes ⟨hv, h0, h1⟩, rnL_eq hv h0 h1]
    (refine Fn_of tysOk Try.func27 rfl rfl (by simp [AV.len, Try.f27]) ⟨?_⟩; conv => whnf)
    (repeat' first | ((with_reducible show ∃ _ : Bool, _); first | (refine ⟨_, [], _, [], _, _, cv, rfl, trivial, ?_, Nx.mk ?_⟩; (focus (((repeat' ((try conv => whnf); (first | exact trivial | exact Eq.refl _ | exact Or.inl (Eq.refl _) | refine And.intro ?_ ?_ | exact fun _ _ _ _ => Eq.refl _ | refine cellJ (fun _ _ => ?_) | (refine cellB ?_; (conv => whnf); refine And.intro ?_ ?_) | exact Nat.le_of_ble_eq_true (Eq.refl true) | exact ⟨_, _, Eq.refl _, Eq.refl _⟩ | fail))) <;> (try conv => whnf)); done)); conv => whnf) | (refine ⟨_, [], _, [], _, _, cn, rfl, trivial, ?_, Nx.mk ?_⟩; (focus (((repeat' ((try conv => whnf); (first | exact trivial | exact Eq.refl _ | exact Or.inl (Eq.refl _) | refine And.intro ?_ ?_ | exact fun _ _ _ _ => Eq.refl _ | refine cellJ (fun _ _ => ?_) | (refine cellB ?_; (conv => whnf); refine And.intro ?_ ?_) | exact Nat.le_of_ble_eq_true (Eq.refl true) | exact ⟨_, _, Eq.refl _, Eq.refl _⟩ | fail))) <;> (try conv => whnf)); done)); conv => whnf))  | (refine splitD (fun hs => Nx.mk ?_) (fun hs => Nx.mk ?_) <;> ((try simp only [Ct.len] at hs); revert hs; intro _; conv => whnf)) | (refine splitB (fun _ => Nx.mk ?_) (fun _ => Nx.mk ?_) <;> conv => whnf) | (refine idxNat (by (first | exact trivial | assumption | omega | (simp only [inK, lenR] at *; omega) | (simp; done) | fail)) (Nx.mk ?_); conv => whnf) | (refine idxPred (by omega) (by (first | exact trivial | assumption | omega | (simp only [inK, lenR] at *; omega) | (simp; done) | fail)) (Nx.mk ?_); conv => whnf) | (refine idxSucc (by (first | exact trivial | assumption | omega | (simp only [inK, lenR] at *; omega) | (simp; done) | fail)) (Nx.mk ?_); conv => whnf) | (refine idxTo (by omega) (by (first | exact trivial | assumption | omega | (simp only [inK, lenR] at *; omega) | (simp; done) | fail)) (Nx.mk ?_); conv => whnf) | (refine mkNat (by omega) (by omega) (Nx.mk ?_); conv => whnf) | (refine ar64 (by omega) (Nx.mk ?_); conv => whnf) | (refine ar_in (by (first | exact trivial | assumption | omega | (simp only [inK, lenR] at *; omega) | (simp; done) | fail)) (Nx.mk ?_); conv => whnf) | (refine nilQ (fun _ => Nx.mk ?_) (Nx.mk ?_) <;> conv => whnf) | (refine condN Try.underlying4 (Nx.mk ?_); conv => whnf) | (refine condN (by (first | exact trivial | assumption | omega | (simp only [inK, lenR] at *; omega) | (simp; done) | fail)) (Nx.mk ?_); conv => whnf) | (refine Nx.mk ?_; conv => whnf))
    (all_goals try first | contradiction | (exfalso; omega))
    refine loopI tysOk [nm 22] (fun k : Nat => [(6, .os (rt (nm 22)))]) (fun k => [(nm 18, some (.mp 118 (.bools (kb (sr (bfsC g usAll) (s, s) k))))), (nm 22, some (.row 3 (.ints .i64 ((keys (sr (bfsC g usAll) (s, s) k)).drop k))))]) (fun k => k ≤ (sr (bfsC g usAll) (s, s) k).length) (fun k => 8 - k) 0 (Nat.zero_le _) ?_ ?_
    · ((try conv => whnf); refine ⟨rfl, by rfl, ?_, ?_⟩ <;> ((repeat' ((try conv => whnf); (first | exact trivial | exact Eq.refl _ | exact Or.inl (Eq.refl _) | refine And.intro ?_ ?_ | exact fun _ _ _ _ => Eq.refl _ | refine cellJ (fun _ _ => ?_) | (refine cellB ?_; (conv => whnf); refine And.intro ?_ ?_) | exact Nat.le_of_ble_eq_true (Eq.refl true) | exact ⟨_, _, Eq.refl _, Eq.refl _⟩ | fail))) <;> (try conv => whnf)))
      · rw [sr_zero, kb_one]; with_unfolding_all rfl
      · rw [sr_zero, keys_one]; rfl
    · intro k hk
      have hI := sr_inv (C := bfsC g usAll) (r := (s, s)) ⟨h0, h1⟩ (bfsC_rng hv) (k := k)
      have hL := hI.len
      have hkl := keys_len (sr (bfsC g usAll) (s, s) k)
      have hdl : ((keys (sr (bfsC g usAll) (s, s) k)).drop k).length = (sr (bfsC g usAll) (s, s) k).length - k := by rw [List.length_drop, hkl]
      (repeat' first | (refine splitD (fun hs => Nx.mk ?_) (fun hs => Nx.mk ?_) <;> ((try simp only [Ct.len] at hs); revert hs; intro _; conv => whnf)) | (refine splitB (fun _ => Nx.mk ?_) (fun _ => Nx.mk ?_) <;> conv => whnf) | (refine idxNat (by (first | exact trivial | assumption | omega | (simp only [inK, lenR] at *; omega) | (simp; done) | fail)) (Nx.mk ?_); conv => whnf) | (refine idxPred (by omega) (by (first | exact trivial | assumption | omega | (simp only [inK, lenR] at *; omega) | (simp; done) | fail)) (Nx.mk ?_); conv => whnf) | (refine idxSucc (by (first | exact trivial | assumption | omega | (simp only [inK, lenR] at *; omega) | (simp; done) | fail)) (Nx.mk ?_); conv => whnf) | (refine idxTo (by omega) (by (first | exact trivial | assumption | omega | (simp only [inK, lenR] at *; omega) | (simp; done) | fail)) (Nx.mk ?_); conv => whnf) | (refine mkNat (by omega) (by omega) (Nx.mk ?_); conv => whnf) | (refine ar64 (by omega) (Nx.mk ?_); conv => whnf) | (refine ar_in (by (first | exact trivial | assumption | omega | (simp only [inK, lenR] at *; omega) | (simp; done) | fail)) (Nx.mk ?_); conv => whnf) | (refine nilQ (fun _ => Nx.mk ?_) (Nx.mk ?_) <;> conv => whnf) | (refine condN Try.underlying4 (Nx.mk ?_); conv => whnf) | (refine condN (by (first | exact trivial | assumption | omega | (simp only [inK, lenR] at *; omega) | (simp; done) | fail)) (Nx.mk ?_); conv => whnf) | (refine Nx.mk ?_; conv => whnf))
      · have hk' : k < (sr (bfsC g usAll) (s, s) k).length := by simp only [lenR] at *; omega
        have ha : (keys (sr (bfsC g usAll) (s, s) k)).getD k 0 = ((sr (bfsC g usAll) (s, s) k).getD k default).1 := keys_getD hk'
        generalize hA : (keys (sr (bfsC g usAll) (s, s) k)).getD k 0 = a at *
        refine loopI tysOk [nm 22, nm 8] (fun j : Nat => [(31, .I j), (6, .os (rt (nm 22)))]) (fun j => [(nm 18, some (.mp 118 (.bools (kb (addAll (sr (bfsC g usAll) (s, s) k) (bfsL g usAll a (idxs (fromB a) g.2.1 j))))))), (nm 22, some (.row 3 (.ints .i64 ((keys (addAll (sr (bfsC g usAll) (s, s) k) (bfsL g usAll a (idxs (fromB a) g.2.1 j)))).drop k))))]) (fun j => j ≤ g.2.1.length) (fun j => g.2.1.length - j) 0 (Nat.zero_le _) ?_ ?_
        · ((try conv => whnf); refine ⟨rfl, by rfl, ?_, ?_⟩ <;> ((repeat' ((try conv => whnf); (first | exact trivial | exact Eq.refl _ | exact Or.inl (Eq.refl _) | refine And.intro ?_ ?_ | exact fun _ _ _ _ => Eq.refl _ | refine cellJ (fun _ _ => ?_) | (refine cellB ?_; (conv => whnf); refine And.intro ?_ ?_) | exact Nat.le_of_ble_eq_true (Eq.refl true) | exact ⟨_, _, Eq.refl _, Eq.refl _⟩ | fail))) <;> (try conv => whnf)))
          · rw [bfs_zero, addAll_nil]
          · rw [bfs_zero, addAll_nil]
        · intro j hj
          have hx1 := addAll_ext (l := bfsL g usAll a (idxs (fromB a) g.2.1 j)) hk'
          have hI1 := addAll_inv (l := bfsL g usAll a (idxs (fromB a) g.2.1 j)) hI hk' ha.symm (fun p hp => ⟨bfsL_in hj p hp, bfsC_rng hv _ p (bfsL_in hj p hp)⟩)
          have hL1 := hI1.len
          have hkl1 := keys_len (addAll (sr (bfsC g usAll) (s, s) k) (bfsL g usAll a (idxs (fromB a) g.2.1 j)))
          have hdl1 : ((keys (addAll (sr (bfsC g usAll) (s, s) k) (bfsL g usAll a (idxs (fromB a) g.2.1 j)))).drop k).length = (addAll (sr (bfsC g usAll) (s, s) k) (bfsL g usAll a (idxs (fromB a) g.2.1 j))).length - k := by rw [List.length_drop, hkl1]
          have hq : ((keys (addAll (sr (bfsC g usAll) (s, s) k) (bfsL g usAll a (idxs (fromB a) g.2.1 j)))).drop k).getD 0 0 = a := by
            rw [drop_getD, Nat.add_zero, keys_getD (by omega), hx1.2]; exact ha.symm
          by_cases hjl : j < g.2.1.length
          · have e8 := bfs_skip (g := g) (us := usAll) (a := a) (m := (sr (bfsC g usAll) (s, s) k)) (j := j)
            have e9 := bfs_add (g := g) (us := usAll) (a := a) (m := (sr (bfsC g usAll) (s, s) k)) (j := j)
            have k1 := kb_get (m := (addAll (sr (bfsC g usAll) (s, s) k) (bfsL g usAll a (idxs (fromB a) g.2.1 j)))) (x := (g.2.1.getD j default).2.1)
            generalize addAll (sr (bfsC g usAll) (s, s) k) (bfsL g usAll a (idxs (fromB a) g.2.1 j)) = M at *
            (repeat' first | ((refine VC_draw (sf := []) tysOk (by kernel_rfl) (by kernel_rfl) (Nx.mk ?_); conv => whnf)) | (refine splitD (fun hs => Nx.mk ?_) (fun hs => Nx.mk ?_) <;> ((try simp only [Ct.len] at hs); revert hs; intro _; conv => whnf)) | (refine splitB (fun _ => Nx.mk ?_) (fun _ => Nx.mk ?_) <;> conv => whnf) | (refine idxNat (by (first | exact trivial | assumption | omega | (simp only [inK, lenR] at *; omega) | (simp; done) | fail)) (Nx.mk ?_); conv => whnf) | (refine idxPred (by omega) (by (first | exact trivial | assumption | omega | (simp only [inK, lenR] at *; omega) | (simp; done) | fail)) (Nx.mk ?_); conv => whnf) | (refine idxSucc (by (first | exact trivial | assumption | omega | (simp only [inK, lenR] at *; omega) | (simp; done) | fail)) (Nx.mk ?_); conv => whnf) | (refine idxTo (by omega) (by (first | exact trivial | assumption | omega | (simp only [inK, lenR] at *; omega) | (simp; done) | fail)) (Nx.mk ?_); conv => whnf) | (refine mkNat (by omega) (by omega) (Nx.mk ?_); conv => whnf) | (refine ar64 (by omega) (Nx.mk ?_); conv => whnf) | (refine ar_in (by (first | exact trivial | assumption | omega | (simp only [inK, lenR] at *; omega) | (simp; done) | fail)) (Nx.mk ?_); conv => whnf) | (refine nilQ (fun _ => Nx.mk ?_) (Nx.mk ?_) <;> conv => whnf) | (refine condN Try.underlying4 (Nx.mk ?_); conv => whnf) | (refine condN (by (first | exact trivial | assumption | omega | (simp only [inK, lenR] at *; omega) | (simp; done) | fail)) (Nx.mk ?_); conv => whnf) | (refine Nx.mk ?_; conv => whnf))
            all_goals try (exfalso; omega)
            all_goals first
              | (have hn : mhas M (g.2.1.getD j default).2.1 = false := by rw [← k1]; assumption
                 have he : (g.2.1.getD j default).1 = a := by rw [← hq]; assumption
                 have e := e9 he (by with_unfolding_all rfl) (ntb hn)
                 refine ⟨j + 1, by omega, by omega, ?_⟩
                 ((try conv => whnf); refine ⟨rfl, by rfl, ?_, ?_⟩ <;> ((repeat' ((try conv => whnf); (first | exact trivial | exact Eq.refl _ | exact Or.inl (Eq.refl _) | refine And.intro ?_ ?_ | exact fun _ _ _ _ => Eq.refl _ | refine cellJ (fun _ _ => ?_) | (refine cellB ?_; (conv => whnf); refine And.intro ?_ ?_) | exact Nat.le_of_ble_eq_true (Eq.refl true) | exact ⟨_, _, Eq.refl _, Eq.refl _⟩ | fail))) <;> (try conv => whnf)))
                 · rw [e]; exact kb_set (ntb hn)
                 · rw [e, keys_app, drop_app (by omega)])
              | (have e := e8 (by first | exact .inr (.inr (by rw [← k1]; assumption)) | exact .inl (fun h => by rename_i hne; exact hne (h.trans hq.symm)))
                 refine ⟨j + 1, by omega, by omega, ?_⟩
                 ((try conv => whnf); refine ⟨rfl, by rfl, ?_, ?_⟩ <;> ((repeat' ((try conv => whnf); (first | exact trivial | exact Eq.refl _ | exact Or.inl (Eq.refl _) | refine And.intro ?_ ?_ | exact fun _ _ _ _ => Eq.refl _ | refine cellJ (fun _ _ => ?_) | (refine cellB ?_; (conv => whnf); refine And.intro ?_ ?_) | exact Nat.le_of_ble_eq_true (Eq.refl true) | exact ⟨_, _, Eq.refl _, Eq.refl _⟩ | fail))) <;> (try conv => whnf)))
                 · rw [e]
                 · rw [e])
          · obtain rfl : j = g.2.1.length := by omega
            have e9 : sr (bfsC g usAll) (s, s) (k + 1) = addAll (sr (bfsC g usAll) (s, s) k) (bfsL g usAll a (idxs (fromB a) g.2.1 g.2.1.length)) := by
              rw [sr_succ hk', ← ha, bfsC_eq]
            (repeat' first | (refine splitD (fun hs => Nx.mk ?_) (fun hs => Nx.mk ?_) <;> ((try simp only [Ct.len] at hs); revert hs; intro _; conv => whnf)) | (refine splitB (fun _ => Nx.mk ?_) (fun _ => Nx.mk ?_) <;> conv => whnf) | (refine idxNat (by (first | exact trivial | assumption | omega | (simp only [inK, lenR] at *; omega) | (simp; done) | fail)) (Nx.mk ?_); conv => whnf) | (refine idxPred (by omega) (by (first | exact trivial | assumption | omega | (simp only [inK, lenR] at *; omega) | (simp; done) | fail)) (Nx.mk ?_); conv => whnf) | (refine idxSucc (by (first | exact trivial | assumption | omega | (simp only [inK, lenR] at *; omega) | (simp; done) | fail)) (Nx.mk ?_); conv => whnf) | (refine idxTo (by omega) (by (first | exact trivial | assumption | omega | (simp only [inK, lenR] at *; omega) | (simp; done) | fail)) (Nx.mk ?_); conv => whnf) | (refine mkNat (by omega) (by omega) (Nx.mk ?_); conv => whnf) | (refine ar64 (by omega) (Nx.mk ?_); conv => whnf) | (refine ar_in (by (first | exact trivial | assumption | omega | (simp only [inK, lenR] at *; omega) | (simp; done) | fail)) (Nx.mk ?_); conv => whnf) | (refine nilQ (fun _ => Nx.mk ?_) (Nx.mk ?_) <;> conv => whnf) | (refine condN Try.underlying4 (Nx.mk ?_); conv => whnf) | (refine condN (by (first | exact trivial | assumption | omega | (simp only [inK, lenR] at *; omega) | (simp; done) | fail)) (Nx.mk ?_); conv => whnf) | (refine Nx.mk ?_; conv => whnf))
            (all_goals try first | contradiction | (exfalso; omega))
            refine ⟨k + 1, by rw [e9]; omega, by omega, ?_⟩
            ((try conv => whnf); refine ⟨rfl, by rfl, ?_, ?_⟩ <;> ((repeat' ((try conv => whnf); (first | exact trivial | exact Eq.refl _ | exact Or.inl (Eq.refl _) | refine And.intro ?_ ?_ | exact fun _ _ _ _ => Eq.refl _ | refine cellJ (fun _ _ => ?_) | (refine cellB ?_; (conv => whnf); refine And.intro ?_ ?_) | exact Nat.le_of_ble_eq_true (Eq.refl true) | exact ⟨_, _, Eq.refl _, Eq.refl _⟩ | fail))) <;> (try conv => whnf)))
            · rw [e9]
            · rw [e9, List.drop_drop]; rfl
      · have hk2 : (sr (bfsC g usAll) (s, s) k).length ≤ k := by simp only [lenR] at *; omega
        have hM : sr (bfsC g usAll) (s, s) k = bfsM g usAll s := (srM_eq ⟨h0, h1⟩ (bfsC_rng hv) hg2 hk2).trans bfsM_eq.symm
        rw [hM]
        have hIM := bfsM_inv (us := usAll) hv h0 h1
        have hLM := hIM.len
        have kW : ∀ p ∈ kb (bfsM g usAll s), W64 p.1 := fun p hp => by
          have hm : p.1 ∈ keys (bfsM g usAll s) := by rw [← kb_keys]; exact List.mem_map.2 ⟨p, hp, rfl⟩
          have := hIM.rng _ hm
          unfold W64
          simp only [Lit.wf, IntKind.min, IntKind.max, IntKind.bits, IntKind.signed, Bool.and_eq_true, decide_eq_true_eq]
          simp
          omega
        have kL : (kb (bfsM g usAll s)).length ≤ 1048576 := by
          have : ((kb (bfsM g usAll s)).map (·.1)).length = (keys (bfsM g usAll s)).length := by rw [kb_keys]
          rw [List.length_map, keys_len] at this
          omega
        have cs := sorted_fn (kb (bfsM g usAll s)) kW kL
        rw [kb_keys] at cs
        (repeat' first | ((with_reducible show ∃ _ : Bool, _); first | (refine ⟨_, [rt (nm 18)], _, _, _, _, keys_fn (.bools (kb (bfsM g usAll s))), rfl, ?_, ?_, Nx.mk ?_⟩; (focus (((repeat' ((try conv => whnf); (first | exact trivial | exact Eq.refl _ | exact Or.inl (Eq.refl _) | refine And.intro ?_ ?_ | exact fun _ _ _ _ => Eq.refl _ | refine cellJ (fun _ _ => ?_) | (refine cellB ?_; (conv => whnf); refine And.intro ?_ ?_) | exact Nat.le_of_ble_eq_true (Eq.refl true) | exact ⟨_, _, Eq.refl _, Eq.refl _⟩ | fail))) <;> (try conv => whnf)); done)); (focus (((repeat' ((try conv => whnf); (first | exact trivial | exact Eq.refl _ | exact Or.inl (Eq.refl _) | refine And.intro ?_ ?_ | exact fun _ _ _ _ => Eq.refl _ | refine cellJ (fun _ _ => ?_) | (refine cellB ?_; (conv => whnf); refine And.intro ?_ ?_) | exact Nat.le_of_ble_eq_true (Eq.refl true) | exact ⟨_, _, Eq.refl _, Eq.refl _⟩ | fail))) <;> (try conv => whnf)); done)); conv => whnf) | (refine ⟨_, [rt (nm 18), rt (nm 58)], _, _, _, _, cs, rfl, ?_, ?_, Nx.mk ?_⟩; (focus (((repeat' ((try conv => whnf); (first | exact trivial | exact Eq.refl _ | exact Or.inl (Eq.refl _) | refine And.intro ?_ ?_ | exact fun _ _ _ _ => Eq.refl _ | refine cellJ (fun _ _ => ?_) | (refine cellB ?_; (conv => whnf); refine And.intro ?_ ?_) | exact Nat.le_of_ble_eq_true (Eq.refl true) | exact ⟨_, _, Eq.refl _, Eq.refl _⟩ | fail))) <;> (try conv => whnf)); done)); (focus (((repeat' ((try conv => whnf); (first | exact trivial | exact Eq.refl _ | exact Or.inl (Eq.refl _) | refine And.intro ?_ ?_ | exact fun _ _ _ _ => Eq.refl _ | refine cellJ (fun _ _ => ?_) | (refine cellB ?_; (conv => whnf); refine And.intro ?_ ?_) | exact Nat.le_of_ble_eq_true (Eq.refl true) | exact ⟨_, _, Eq.refl _, Eq.refl _⟩ | fail))) <;> (try conv => whnf)); done)); conv => whnf))  | (refine splitD (fun hs => Nx.mk ?_) (fun hs => Nx.mk ?_) <;> ((try simp only [Ct.len] at hs); revert hs; intro _; conv => whnf)) | (refine splitB (fun _ => Nx.mk ?_) (fun _ => Nx.mk ?_) <;> conv => whnf) | (refine idxNat (by (first | exact trivial | assumption | omega | (simp only [inK, lenR] at *; omega) | (simp; done) | fail)) (Nx.mk ?_); conv => whnf) | (refine idxPred (by omega) (by (first | exact trivial | assumption | omega | (simp only [inK, lenR] at *; omega) | (simp; done) | fail)) (Nx.mk ?_); conv => whnf) | (refine idxSucc (by (first | exact trivial | assumption | omega | (simp only [inK, lenR] at *; omega) | (simp; done) | fail)) (Nx.mk ?_); conv => whnf) | (refine idxTo (by omega) (by (first | exact trivial | assumption | omega | (simp only [inK, lenR] at *; omega) | (simp; done) | fail)) (Nx.mk ?_); conv => whnf) | (refine mkNat (by omega) (by omega) (Nx.mk ?_); conv => whnf) | (refine ar64 (by omega) (Nx.mk ?_); conv => whnf) | (refine ar_in (by (first | exact trivial | assumption | omega | (simp only [inK, lenR] at *; omega) | (simp; done) | fail)) (Nx.mk ?_); conv => whnf) | (refine nilQ (fun _ => Nx.mk ?_) (Nx.mk ?_) <;> conv => whnf) | (refine condN Try.underlying4 (Nx.mk ?_); conv => whnf) | (refine condN (by (first | exact trivial | assumption | omega | (simp only [inK, lenR] at *; omega) | (simp; done) | fail)) (Nx.mk ?_); conv => whnf) | (refine Nx.mk ?_; conv => whnf))
        (all_goals try first | contradiction | (exfalso; omega))
        refine ⟨[(16, nm 59)], rfl, ?_, ?_, ?_, fun _ => ?_⟩
        · ((try conv => whnf); refine ⟨rfl, by rfl, ?_, ?_⟩ <;> ((repeat' ((try conv => whnf); (first | exact trivial | exact Eq.refl _ | exact Or.inl (Eq.refl _) | refine And.intro ?_ ?_ | exact fun _ _ _ _ => Eq.refl _ | refine cellJ (fun _ _ => ?_) | (refine cellB ?_; (conv => whnf); refine And.intro ?_ ?_) | exact Nat.le_of_ble_eq_true (Eq.refl true) | exact ⟨_, _, Eq.refl _, Eq.refl _⟩ | fail))) <;> (try conv => whnf)))
        all_goals ((repeat' ((try conv => whnf); (first | exact trivial | exact Eq.refl _ | exact Or.inl (Eq.refl _) | refine And.intro ?_ ?_ | exact fun _ _ _ _ => Eq.refl _ | refine cellJ (fun _ _ => ?_) | (refine cellB ?_; (conv => whnf); refine And.intro ?_ ?_) | exact Nat.le_of_ble_eq_true (Eq.refl true) | exact ⟨_, _, Eq.refl _, Eq.refl _⟩ | fail))) <;> (try conv => whnf))
  · rw [rnG_no hp]
    (refine Fn_of tysOk Try.func27 rfl rfl (by simp [AV.len, Try.f27]) ⟨?_⟩; conv => whnf)
    (repeat' first | ((with_reducible show ∃ _ : Bool, _); first | (refine ⟨_, [], _, [], _, _, iValid_fn g h, rfl, trivial, ?_, Nx.mk ?_⟩; (focus (((repeat' ((try conv => whnf); (first | exact trivial | exact Eq.refl _ | exact Or.inl (Eq.refl _) | refine And.intro ?_ ?_ | exact fun _ _ _ _ => Eq.refl _ | refine cellJ (fun _ _ => ?_) | (refine cellB ?_; (conv => whnf); refine And.intro ?_ ?_) | exact Nat.le_of_ble_eq_true (Eq.refl true) | exact ⟨_, _, Eq.refl _, Eq.refl _⟩ | fail))) <;> (try conv => whnf)); done)); conv => whnf) | (refine ⟨_, [], _, [], _, _, hasNode_fn g _, rfl, trivial, (by ((repeat' ((try conv => whnf); (first | exact trivial | exact Eq.refl _ | exact Or.inl (Eq.refl _) | refine And.intro ?_ ?_ | exact fun _ _ _ _ => Eq.refl _ | refine cellJ (fun _ _ => ?_) | (refine cellB ?_; (conv => whnf); refine And.intro ?_ ?_) | exact Nat.le_of_ble_eq_true (Eq.refl true) | exact ⟨_, _, Eq.refl _, Eq.refl _⟩ | fail))) <;> (try conv => whnf))), Nx.mk ?_⟩; conv => whnf))  | (refine splitD (fun hs => Nx.mk ?_) (fun hs => Nx.mk ?_) <;> ((try simp only [Ct.len] at hs); revert hs; intro _; conv => whnf)) | (refine splitB (fun _ => Nx.mk ?_) (fun _ => Nx.mk ?_) <;> conv => whnf) | (refine idxNat (by (first | exact trivial | assumption | omega | (simp only [inK, lenR] at *; omega) | (simp; done) | fail)) (Nx.mk ?_); conv => whnf) | (refine idxPred (by omega) (by (first | exact trivial | assumption | omega | (simp only [inK, lenR] at *; omega) | (simp; done) | fail)) (Nx.mk ?_); conv => whnf) | (refine idxSucc (by (first | exact trivial | assumption | omega | (simp only [inK, lenR] at *; omega) | (simp; done) | fail)) (Nx.mk ?_); conv => whnf) | (refine idxTo (by omega) (by (first | exact trivial | assumption | omega | (simp only [inK, lenR] at *; omega) | (simp; done) | fail)) (Nx.mk ?_); conv => whnf) | (refine mkNat (by omega) (by omega) (Nx.mk ?_); conv => whnf) | (refine ar64 (by omega) (Nx.mk ?_); conv => whnf) | (refine ar_in (by (first | exact trivial | assumption | omega | (simp only [inK, lenR] at *; omega) | (simp; done) | fail)) (Nx.mk ?_); conv => whnf) | (refine nilQ (fun _ => Nx.mk ?_) (Nx.mk ?_) <;> conv => whnf) | (refine condN Try.underlying4 (Nx.mk ?_); conv => whnf) | (refine condN (by (first | exact trivial | assumption | omega | (simp only [inK, lenR] at *; omega) | (simp; done) | fail)) (Nx.mk ?_); conv => whnf) | (refine Or.inr (Nx.mk ?_); conv => whnf) | (refine Nx.mk ?_; conv => whnf))
    all_goals first
      | (refine ⟨[], rfl, ?_, ?_, ?_, fun _ => ?_⟩
         · ((try conv => whnf); refine ⟨rfl, by rfl, ?_, ?_⟩ <;> ((repeat' ((try conv => whnf); (first | exact trivial | exact Eq.refl _ | exact Or.inl (Eq.refl _) | refine And.intro ?_ ?_ | exact fun _ _ _ _ => Eq.refl _ | refine cellJ (fun _ _ => ?_) | (refine cellB ?_; (conv => whnf); refine And.intro ?_ ?_) | exact Nat.le_of_ble_eq_true (Eq.refl true) | exact ⟨_, _, Eq.refl _, Eq.refl _⟩ | fail))) <;> (try conv => whnf)))
         all_goals ((repeat' ((try conv => whnf); (first | exact trivial | exact Eq.refl _ | exact Or.inl (Eq.refl _) | refine And.intro ?_ ?_ | exact fun _ _ _ _ => Eq.refl _ | refine cellJ (fun _ _ => ?_) | (refine cellB ?_; (conv => whnf); refine And.intro ?_ ?_) | exact Nat.le_of_ble_eq_true (Eq.refl true) | exact ⟨_, _, Eq.refl _, Eq.refl _⟩ | fail))) <;> (try conv => whnf))
         done)
      | (exfalso
         have hV := validG_iff.1 (by assumption)
         have hw : IntKind.wrap .i64 (g.1 - 1) = g.1 - 1 := topN_eq hV.lo hV.hi
         exact hp ⟨hV, by omega, by omega⟩)
end Go.Proofs.Ytmnbpamaiboghaa
