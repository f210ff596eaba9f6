/-
  The reference's search.
-/
import Derived.Test.YtmnbpamaiboghaaFs
namespace Go.Proofs.Ytmnbpamaiboghaa
set_option linter.unusedVariables false
set_option linter.unusedSimpArgs false
set_option maxRecDepth 100000
set_option maxHeartbeats 4000000
attribute [local irreducible] Fn
theorem take_snoc {l : List Int} {i : Nat} (h : i < l.length) : l.take (i + 1) = l.take i ++ [l.getD i 0] := by
  rw [List.take_add_one, List.getElem?_eq_getElem h, List.getD_eq_getElem?_getD, List.getElem?_eq_getElem h]; rfl
theorem fwdT_add {g : Gr} {f l : List Int} {m : Pairs} {i : Nat} (h : i < l.length) (h2 : f.getD (l.getD i 0).toNat 0 < (eAt g (l.getD i 0).toNat).2.2.1) (h3 : ¬ mhas (addAll m (fwdL g f (l.take i))) (eAt g (l.getD i 0).toNat).2.1 = true) :
    addAll m (fwdL g f (l.take (i + 1))) = addAll m (fwdL g f (l.take i)) ++ [((eAt g (l.getD i 0).toNat).2.1, l.getD i 0)] := by
  have e2 : fwdL g f (l.take (i + 1)) = fwdL g f (l.take i) ++ [((eAt g (l.getD i 0).toNat).2.1, l.getD i 0)] := by
    rw [take_snoc h]; unfold fwdL; rw [List.flatMap_append]
    simp only [List.flatMap_cons, List.flatMap_nil, if_pos h2, List.append_nil]
  rw [e2, addAll_app, addC_new h3]
theorem fwdT_skip {g : Gr} {f l : List Int} {m : Pairs} {i : Nat} (h : i < l.length) (h2 : ¬ f.getD (l.getD i 0).toNat 0 < (eAt g (l.getD i 0).toNat).2.2.1 ∨ mhas (addAll m (fwdL g f (l.take i))) (eAt g (l.getD i 0).toNat).2.1 = true) :
    addAll m (fwdL g f (l.take (i + 1))) = addAll m (fwdL g f (l.take i)) := by
  by_cases h4 : f.getD (l.getD i 0).toNat 0 < (eAt g (l.getD i 0).toNat).2.2.1
  · have e2 : fwdL g f (l.take (i + 1)) = fwdL g f (l.take i) ++ [((eAt g (l.getD i 0).toNat).2.1, l.getD i 0)] := by
      rw [take_snoc h]; unfold fwdL; rw [List.flatMap_append]
      simp only [List.flatMap_cons, List.flatMap_nil, if_pos h4, List.append_nil]
    rw [e2, addAll_app, addC_old (h2.resolve_left (fun hn => hn h4))]
  · have e2 : fwdL g f (l.take (i + 1)) = fwdL g f (l.take i) := by
      rw [take_snoc h]; unfold fwdL; rw [List.flatMap_append]
      simp only [List.flatMap_cons, List.flatMap_nil, if_neg h4, List.append_nil]
    rw [e2]
theorem bwdT_add {g : Gr} {f l : List Int} {m : Pairs} {i : Nat} (h : i < l.length) (h2 : 0 < f.getD (l.getD i 0).toNat 0) (h3 : ¬ mhas (addAll m (bwdL g f (l.take i))) (eAt g (l.getD i 0).toNat).1 = true) :
    addAll m (bwdL g f (l.take (i + 1))) = addAll m (bwdL g f (l.take i)) ++ [((eAt g (l.getD i 0).toNat).1, l.getD i 0)] := by
  have e2 : bwdL g f (l.take (i + 1)) = bwdL g f (l.take i) ++ [((eAt g (l.getD i 0).toNat).1, l.getD i 0)] := by
    rw [take_snoc h]; unfold bwdL; rw [List.flatMap_append]
    simp only [List.flatMap_cons, List.flatMap_nil, if_pos h2, List.append_nil]
  rw [e2, addAll_app, addC_new h3]
theorem bwdT_skip {g : Gr} {f l : List Int} {m : Pairs} {i : Nat} (h : i < l.length) (h2 : ¬ 0 < f.getD (l.getD i 0).toNat 0 ∨ mhas (addAll m (bwdL g f (l.take i))) (eAt g (l.getD i 0).toNat).1 = true) :
    addAll m (bwdL g f (l.take (i + 1))) = addAll m (bwdL g f (l.take i)) := by
  by_cases h4 : 0 < f.getD (l.getD i 0).toNat 0
  · have e2 : bwdL g f (l.take (i + 1)) = bwdL g f (l.take i) ++ [((eAt g (l.getD i 0).toNat).1, l.getD i 0)] := by
      rw [take_snoc h]; unfold bwdL; rw [List.flatMap_append]
      simp only [List.flatMap_cons, List.flatMap_nil, if_pos h4, List.append_nil]
    rw [e2, addAll_app, addC_old (h2.resolve_left (fun hn => hn h4))]
  · have e2 : bwdL g f (l.take (i + 1)) = bwdL g f (l.take i) := by
      rw [take_snoc h]; unfold bwdL; rw [List.flatMap_append]
      simp only [List.flatMap_cons, List.flatMap_nil, if_neg h4, List.append_nil]
    rw [e2]
theorem fwdT_in {g : Gr} {f : List Int} {a : Int} {i : Nat} : ∀ p ∈ fwdL g f ((eFrom g a).take i), p ∈ mfC g f a := by
  intro p hp
  obtain ⟨x, h1, h2⟩ := List.mem_flatMap.1 hp
  exact List.mem_append.2 (.inl (List.mem_flatMap.2 ⟨x, List.mem_of_mem_take h1, h2⟩))
theorem bwdT_in {g : Gr} {f : List Int} {a : Int} {i : Nat} : ∀ p ∈ bwdL g f ((eTo g a).take i), p ∈ mfC g f a := by
  intro p hp
  obtain ⟨x, h1, h2⟩ := List.mem_flatMap.1 hp
  exact List.mem_append.2 (.inr (List.mem_flatMap.2 ⟨x, List.mem_of_mem_take h1, h2⟩))
theorem hasK {m : Pairs} {x : Int} : hasI (keys m) x = mhas m x := by
  rw [Bool.eq_iff_iff, mhas_iff]
  unfold hasI keys
  rw [List.any_eq_true]
  constructor
  · rintro ⟨y, hy, e⟩; rw [← of_decide_eq_true e]; exact hy
  · intro h; exact ⟨x, h, decide_eq_true rfl⟩
theorem fwdT_zero {g : Gr} {f l : List Int} : fwdL g f (l.take 0) = [] := rfl
theorem bwdT_zero {g : Gr} {f l : List Int} : bwdL g f (l.take 0) = [] := rfl
theorem addAll_nil' {m : Pairs} : addAll m [] = m := rfl
theorem sr_zero' {C : Int → Pairs} {r : Int × Int} : sr C r 0 = [r] := rfl
theorem keys_one' {x v : Int} : keys [(x, v)] = [x] := rfl
theorem eFrom_len {g : Gr} {a : Int} : (eFrom g a).length ≤ g.2.1.length := idxs_len
theorem eTo_len {g : Gr} {a : Int} : (eTo g a).length ≤ g.2.1.length := idxs_len
theorem rep_step {n i : Nat} (h : i < n) : (List.replicate i (-1 : Int) ++ List.replicate (n - i) 0).set i (-1) = List.replicate (i + 1) (-1) ++ List.replicate (n - (i + 1)) 0 := by
  obtain ⟨m, hm⟩ : ∃ m, n - i = m + 1 := ⟨n - i - 1, by omega⟩
  have hm' : n - (i + 1) = m := by omega
  rw [hm, hm', List.replicate_succ, List.set_append_right _ _ (by simp), List.length_replicate, Nat.sub_self, List.set_cons_zero, List.replicate_succ', List.append_assoc]
  rfl
theorem sr_succ' {C : Int → Pairs} {r : Int × Int} {k : Nat} (h : k < (sr C r k).length) : sr C r (k + 1) = addAll (sr C r k) (C ((sr C r k).getD k default).1) := if_pos h
theorem SrI.root {C : Int → Pairs} {r : Int × Int} {n : Int} {m : Pairs} (h : SrI C r n m) : mhas m r.1 = true := by
  rw [mhas_iff]
  have := getD_mem h.pos
  rw [h.hd] at this
  exact List.mem_map.2 ⟨_, this, rfl⟩
theorem nots {m : Pairs} {b s : Int} (h1 : mhas m b = false) (h2 : mhas m s = true) : b ≠ s := fun e => by rw [e, h2] at h1; cases h1
theorem mfC_eq {g : Gr} {f : List Int} {a : Int} : mfC g f a = fwdL g f (eFrom g a) ++ bwdL g f (eTo g a) := rfl
theorem addAll_cat' {m l l' : Pairs} : addAll m (l ++ l') = addAll (addAll m l) l' := addAll_cat m l l'
theorem idx_eF {g : Gr} {a : Int} {i : Nat} (h : i < (eFrom g a).length) : (eAt g ((eFrom g a).getD i 0).toNat).1 = a := of_decide_eq_true (idxs_at h).2.2
theorem idx_eT {g : Gr} {a : Int} {i : Nat} (h : i < (eTo g a).length) : (eAt g ((eTo g a).getD i 0).toNat).2.1 = a := of_decide_eq_true (idxs_at h).2.2
theorem take_all {l : List Int} : l.take l.length = l := List.take_length
attribute [local irreducible] addAll fwdL bwdL idxs sr mset mhas mgetI keys mfM byT eFrom eTo hasI
theorem sMs_fn (g : Gr) (f : L1) (s : Int) (hv : ValidG g) (hs0 : 0 ≤ s) (hs1 : s < g.1) (hok : FlowOk g f.1) : Fn Try.prog 140 true (.cons (GrA g) (.cons (L1A f) (.cons (.I s) .nil))) [] (.tup (.cons (.os (rt 16)) (.cons (.os (rt 17)) .nil))) [(16, .row 3 (.ints .i64 (keys (mfM g f.1 s)))), (17, .row 3 (.ints .i64 (byT g s (mfM g f.1 s))))] := by
  have hlen := hv.len
  have hg1 := hv.lo
  have hg2 := hv.hi
  have hfl := hok.len
  (refine Fn_of tysOk Try.func140 rfl rfl (by simp [AV.len, Try.f140]) ⟨?_⟩; conv => whnf)
  (repeat' first | (refine splitD (fun hs => Nx.mk ?_) (fun hs => Nx.mk ?_) <;> ((try simp only [Ct.len] at hs); revert hs; intro _; conv => whnf)) | (refine splitB (fun _ => Nx.mk ?_) (fun _ => Nx.mk ?_) <;> conv => whnf) | (refine idxNat (by (first | exact trivial | assumption | omega | (simp only [inK, lenR] at *; omega) | (simp; done) | fail)) (Nx.mk ?_); conv => whnf) | (refine idxPred (by omega) (by (first | exact trivial | assumption | omega | (simp only [inK, lenR] at *; omega) | (simp; done) | fail)) (Nx.mk ?_); conv => whnf) | (refine idxSucc (by (first | exact trivial | assumption | omega | (simp only [inK, lenR] at *; omega) | (simp; done) | fail)) (Nx.mk ?_); conv => whnf) | (refine idxTo (by omega) (by (first | exact trivial | assumption | omega | (simp only [inK, lenR] at *; omega) | (simp; done) | fail)) (Nx.mk ?_); conv => whnf) | (refine mkNat (by omega) (by omega) (Nx.mk ?_); conv => whnf) | (refine ar64 (by omega) (Nx.mk ?_); conv => whnf) | (refine ar_in (by (first | exact trivial | assumption | omega | (simp only [inK, lenR] at *; omega) | (simp; done) | fail)) (Nx.mk ?_); conv => whnf) | (refine nilQ (fun _ => Nx.mk ?_) (Nx.mk ?_) <;> conv => whnf) | (refine condN Try.underlying4 (Nx.mk ?_); conv => whnf) | (refine condN (by (first | exact trivial | assumption | omega | (simp only [inK, lenR] at *; omega) | (simp; done) | fail)) (Nx.mk ?_); conv => whnf) | (refine Nx.mk ?_; conv => whnf))
  refine ⟨g.1.toNat, g.1.toNat, by omega, by omega, Nat.le_refl _, by omega, Nx.mk ?_⟩
  conv => whnf
  (repeat' first | (refine splitD (fun hs => Nx.mk ?_) (fun hs => Nx.mk ?_) <;> ((try simp only [Ct.len] at hs); revert hs; intro _; conv => whnf)) | (refine splitB (fun _ => Nx.mk ?_) (fun _ => Nx.mk ?_) <;> conv => whnf) | (refine idxNat (by (first | exact trivial | assumption | omega | (simp only [inK, lenR] at *; omega) | (simp; done) | fail)) (Nx.mk ?_); conv => whnf) | (refine idxPred (by omega) (by (first | exact trivial | assumption | omega | (simp only [inK, lenR] at *; omega) | (simp; done) | fail)) (Nx.mk ?_); conv => whnf) | (refine idxSucc (by (first | exact trivial | assumption | omega | (simp only [inK, lenR] at *; omega) | (simp; done) | fail)) (Nx.mk ?_); conv => whnf) | (refine idxTo (by omega) (by (first | exact trivial | assumption | omega | (simp only [inK, lenR] at *; omega) | (simp; done) | fail)) (Nx.mk ?_); conv => whnf) | (refine mkNat (by omega) (by omega) (Nx.mk ?_); conv => whnf) | (refine ar64 (by omega) (Nx.mk ?_); conv => whnf) | (refine ar_in (by (first | exact trivial | assumption | omega | (simp only [inK, lenR] at *; omega) | (simp; done) | fail)) (Nx.mk ?_); conv => whnf) | (refine nilQ (fun _ => Nx.mk ?_) (Nx.mk ?_) <;> conv => whnf) | (refine condN Try.underlying4 (Nx.mk ?_); conv => whnf) | (refine condN (by (first | exact trivial | assumption | omega | (simp only [inK, lenR] at *; omega) | (simp; done) | fail)) (Nx.mk ?_); conv => whnf) | (refine Nx.mk ?_; conv => whnf))
  refine loopI tysOk [] (fun i : Nat => [(9, .I i)]) (fun i => [(nm 21, some (.row 3 (.ints .i64 (List.replicate i (-1) ++ List.replicate (g.1.toNat - i) 0))))]) (fun i => i ≤ g.1.toNat) (fun i => g.1.toNat - i) 0 (Nat.zero_le _) ?_ ?_
  · ((try conv => whnf); refine ⟨rfl, by rfl, ?_, ?_⟩ <;> ((repeat' ((try conv => whnf); (first | exact trivial | exact Eq.refl _ | exact Or.inl (Eq.refl _) | refine And.intro ?_ ?_ | exact fun _ _ _ _ => Eq.refl _ | refine cellJ (fun _ _ => ?_) | (refine cellB ?_; (conv => whnf); refine And.intro ?_ ?_) | exact Nat.le_of_ble_eq_true (Eq.refl true) | exact ⟨_, _, Eq.refl _, Eq.refl _⟩ | fail))) <;> (try conv => whnf)))
  · intro i hi
    (repeat' first | (refine splitD (fun hs => Nx.mk ?_) (fun hs => Nx.mk ?_) <;> ((try simp only [Ct.len] at hs); revert hs; intro _; conv => whnf)) | (refine splitB (fun _ => Nx.mk ?_) (fun _ => Nx.mk ?_) <;> conv => whnf) | (refine idxNat (by (first | exact trivial | assumption | omega | (simp only [inK, lenR] at *; omega) | (simp; done) | fail)) (Nx.mk ?_); conv => whnf) | (refine idxPred (by omega) (by (first | exact trivial | assumption | omega | (simp only [inK, lenR] at *; omega) | (simp; done) | fail)) (Nx.mk ?_); conv => whnf) | (refine idxSucc (by (first | exact trivial | assumption | omega | (simp only [inK, lenR] at *; omega) | (simp; done) | fail)) (Nx.mk ?_); conv => whnf) | (refine idxTo (by omega) (by (first | exact trivial | assumption | omega | (simp only [inK, lenR] at *; omega) | (simp; done) | fail)) (Nx.mk ?_); conv => whnf) | (refine mkNat (by omega) (by omega) (Nx.mk ?_); conv => whnf) | (refine ar64 (by omega) (Nx.mk ?_); conv => whnf) | (refine ar_in (by (first | exact trivial | assumption | omega | (simp only [inK, lenR] at *; omega) | (simp; done) | fail)) (Nx.mk ?_); conv => whnf) | (refine nilQ (fun _ => Nx.mk ?_) (Nx.mk ?_) <;> conv => whnf) | (refine condN Try.underlying4 (Nx.mk ?_); conv => whnf) | (refine condN (by (first | exact trivial | assumption | omega | (simp only [inK, lenR] at *; omega) | (simp; done) | fail)) (Nx.mk ?_); conv => whnf) | (refine Nx.mk ?_; conv => whnf))
    · refine ⟨i + 1, by omega, by omega, ?_⟩
      ((try conv => whnf); refine ⟨rfl, by rfl, ?_, ?_⟩ <;> ((repeat' ((try conv => whnf); (first | exact trivial | exact Eq.refl _ | exact Or.inl (Eq.refl _) | refine And.intro ?_ ?_ | exact fun _ _ _ _ => Eq.refl _ | refine cellJ (fun _ _ => ?_) | (refine cellB ?_; (conv => whnf); refine And.intro ?_ ?_) | exact Nat.le_of_ble_eq_true (Eq.refl true) | exact ⟨_, _, Eq.refl _, Eq.refl _⟩ | fail))) <;> (try conv => whnf)))
      exact rep_step (by omega)
    · have ei : i = g.1.toNat := by omega
      refine loopI tysOk [nm 32] (fun k : Nat => [(11, .I k), (10, .os (rt (nm 32)))]) (fun k => [(nm 32, some (.row 3 (.ints .i64 (keys (sr (mfC g f.1) (s, -1) k))))), (nm 21, some (.row 3 (.ints .i64 (byT g s (sr (mfC g f.1) (s, -1) k)))))]) (fun k => k ≤ (sr (mfC g f.1) (s, -1) k).length) (fun k => 8 - k) 0 (Nat.zero_le _) ?_ ?_
      · ((try conv => whnf); refine ⟨rfl, by rfl, ?_, ?_⟩ <;> ((repeat' ((try conv => whnf); (first | exact trivial | exact Eq.refl _ | exact Or.inl (Eq.refl _) | refine And.intro ?_ ?_ | exact fun _ _ _ _ => Eq.refl _ | refine cellJ (fun _ _ => ?_) | (refine cellB ?_; (conv => whnf); refine And.intro ?_ ?_) | exact Nat.le_of_ble_eq_true (Eq.refl true) | exact ⟨_, _, Eq.refl _, Eq.refl _⟩ | fail))) <;> (try conv => whnf)))
        · rw [sr_zero', keys_one']
        · rw [sr_zero', byT_zero, ei, Nat.sub_self]; simp
      · intro k hk
        have hI := sr_inv (C := mfC g f.1) (r := (s, -1)) ⟨hs0, hs1⟩ (mfC_rng hv) (k := k)
        have hL := hI.len
        have hkl := keys_len (sr (mfC g f.1) (s, -1) k)
        (repeat' first | (refine splitD (fun hs => Nx.mk ?_) (fun hs => Nx.mk ?_) <;> ((try simp only [Ct.len] at hs); revert hs; intro _; conv => whnf)) | (refine splitB (fun _ => Nx.mk ?_) (fun _ => Nx.mk ?_) <;> conv => whnf) | (refine idxNat (by (first | exact trivial | assumption | omega | (simp only [inK, lenR] at *; omega) | (simp; done) | fail)) (Nx.mk ?_); conv => whnf) | (refine idxPred (by omega) (by (first | exact trivial | assumption | omega | (simp only [inK, lenR] at *; omega) | (simp; done) | fail)) (Nx.mk ?_); conv => whnf) | (refine idxSucc (by (first | exact trivial | assumption | omega | (simp only [inK, lenR] at *; omega) | (simp; done) | fail)) (Nx.mk ?_); conv => whnf) | (refine idxTo (by omega) (by (first | exact trivial | assumption | omega | (simp only [inK, lenR] at *; omega) | (simp; done) | fail)) (Nx.mk ?_); conv => whnf) | (refine mkNat (by omega) (by omega) (Nx.mk ?_); conv => whnf) | (refine ar64 (by omega) (Nx.mk ?_); conv => whnf) | (refine ar_in (by (first | exact trivial | assumption | omega | (simp only [inK, lenR] at *; omega) | (simp; done) | fail)) (Nx.mk ?_); conv => whnf) | (refine nilQ (fun _ => Nx.mk ?_) (Nx.mk ?_) <;> conv => whnf) | (refine condN Try.underlying4 (Nx.mk ?_); conv => whnf) | (refine condN (by (first | exact trivial | assumption | omega | (simp only [inK, lenR] at *; omega) | (simp; done) | fail)) (Nx.mk ?_); conv => whnf) | (refine Nx.mk ?_; conv => whnf))
        · have hk' : k < (sr (mfC g f.1) (s, -1) k).length := by omega
          have ha : (keys (sr (mfC g f.1) (s, -1) k)).getD k 0 = ((sr (mfC g f.1) (s, -1) k).getD k default).1 := keys_getD hk'
          generalize hA : (keys (sr (mfC g f.1) (s, -1) k)).getD k 0 = a at *
          (repeat' first | ((with_reducible show ∃ _ : Bool, _); first | (refine ⟨_, [], _, [], _, _, sFrom_fn g a (by omega), rfl, trivial, ?_, Nx.mk ?_⟩; (focus (((repeat' ((try conv => whnf); (first | exact trivial | exact Eq.refl _ | exact Or.inl (Eq.refl _) | refine And.intro ?_ ?_ | exact fun _ _ _ _ => Eq.refl _ | refine cellJ (fun _ _ => ?_) | (refine cellB ?_; (conv => whnf); refine And.intro ?_ ?_) | exact Nat.le_of_ble_eq_true (Eq.refl true) | exact ⟨_, _, Eq.refl _, Eq.refl _⟩ | fail))) <;> (try conv => whnf)); done)); conv => whnf))  | (refine splitD (fun hs => Nx.mk ?_) (fun hs => Nx.mk ?_) <;> ((try simp only [Ct.len] at hs); revert hs; intro _; conv => whnf)) | (refine splitB (fun _ => Nx.mk ?_) (fun _ => Nx.mk ?_) <;> conv => whnf) | (refine idxNat (by (first | exact trivial | assumption | omega | (simp only [inK, lenR] at *; omega) | (simp; done) | fail)) (Nx.mk ?_); conv => whnf) | (refine idxPred (by omega) (by (first | exact trivial | assumption | omega | (simp only [inK, lenR] at *; omega) | (simp; done) | fail)) (Nx.mk ?_); conv => whnf) | (refine idxSucc (by (first | exact trivial | assumption | omega | (simp only [inK, lenR] at *; omega) | (simp; done) | fail)) (Nx.mk ?_); conv => whnf) | (refine idxTo (by omega) (by (first | exact trivial | assumption | omega | (simp only [inK, lenR] at *; omega) | (simp; done) | fail)) (Nx.mk ?_); conv => whnf) | (refine mkNat (by omega) (by omega) (Nx.mk ?_); conv => whnf) | (refine ar64 (by omega) (Nx.mk ?_); conv => whnf) | (refine ar_in (by (first | exact trivial | assumption | omega | (simp only [inK, lenR] at *; omega) | (simp; done) | fail)) (Nx.mk ?_); conv => whnf) | (refine nilQ (fun _ => Nx.mk ?_) (Nx.mk ?_) <;> conv => whnf) | (refine condN Try.underlying4 (Nx.mk ?_); conv => whnf) | (refine condN (by (first | exact trivial | assumption | omega | (simp only [inK, lenR] at *; omega) | (simp; done) | fail)) (Nx.mk ?_); conv => whnf) | (refine Nx.mk ?_; conv => whnf))
          refine loopI tysOk [nm 32] (fun i : Nat => [(14, .I i), (10, .os (rt (nm 32)))]) (fun i => [(nm 32, some (.row 3 (.ints .i64 (keys (addAll (sr (mfC g f.1) (s, -1) k) (fwdL g f.1 ((eFrom g a).take i))))))), (nm 21, some (.row 3 (.ints .i64 (byT g s (addAll (sr (mfC g f.1) (s, -1) k) (fwdL g f.1 ((eFrom g a).take i)))))))]) (fun i => i ≤ (eFrom g a).length) (fun i => (eFrom g a).length - i) 0 (Nat.zero_le _) ?_ ?_
          · ((try conv => whnf); refine ⟨rfl, by rfl, ?_, ?_⟩ <;> ((repeat' ((try conv => whnf); (first | exact trivial | exact Eq.refl _ | exact Or.inl (Eq.refl _) | refine And.intro ?_ ?_ | exact fun _ _ _ _ => Eq.refl _ | refine cellJ (fun _ _ => ?_) | (refine cellB ?_; (conv => whnf); refine And.intro ?_ ?_) | exact Nat.le_of_ble_eq_true (Eq.refl true) | exact ⟨_, _, Eq.refl _, Eq.refl _⟩ | fail))) <;> (try conv => whnf)))
            · rw [fwdT_zero, addAll_nil']
            · rw [fwdT_zero, addAll_nil']
          · intro i hi
            have hI1 := addAll_inv (l := fwdL g f.1 ((eFrom g a).take i)) hI hk' ha.symm (fun p hp => ⟨fwdT_in p hp, mfC_rng hv _ p (fwdT_in p hp)⟩)
            have hL1 := hI1.len
            have hkl1 := keys_len (addAll (sr (mfC g f.1) (s, -1) k) (fwdL g f.1 ((eFrom g a).take i)))
            have hbl1 := byT_len g s (addAll (sr (mfC g f.1) (s, -1) k) (fwdL g f.1 ((eFrom g a).take i)))
            have hok2 : i < (eFrom g a).length → _ := fun h => eFrom_ok (g := g) (a := a) (k := i) h
            have hle : (eFrom g a).length ≤ g.2.1.length := eFrom_len
            (repeat' first | (refine splitD (fun hs => Nx.mk ?_) (fun hs => Nx.mk ?_) <;> ((try simp only [Ct.len] at hs); revert hs; intro _; conv => whnf)) | (refine splitB (fun _ => Nx.mk ?_) (fun _ => Nx.mk ?_) <;> conv => whnf) | (refine idxNat (by (first | exact trivial | assumption | omega | (simp only [inK, lenR] at *; omega) | (simp; done) | fail)) (Nx.mk ?_); conv => whnf) | (refine idxPred (by omega) (by (first | exact trivial | assumption | omega | (simp only [inK, lenR] at *; omega) | (simp; done) | fail)) (Nx.mk ?_); conv => whnf) | (refine idxSucc (by (first | exact trivial | assumption | omega | (simp only [inK, lenR] at *; omega) | (simp; done) | fail)) (Nx.mk ?_); conv => whnf) | (refine idxTo (by omega) (by (first | exact trivial | assumption | omega | (simp only [inK, lenR] at *; omega) | (simp; done) | fail)) (Nx.mk ?_); conv => whnf) | (refine mkNat (by omega) (by omega) (Nx.mk ?_); conv => whnf) | (refine ar64 (by omega) (Nx.mk ?_); conv => whnf) | (refine ar_in (by (first | exact trivial | assumption | omega | (simp only [inK, lenR] at *; omega) | (simp; done) | fail)) (Nx.mk ?_); conv => whnf) | (refine nilQ (fun _ => Nx.mk ?_) (Nx.mk ?_) <;> conv => whnf) | (refine condN Try.underlying4 (Nx.mk ?_); conv => whnf) | (refine condN (by (first | exact trivial | assumption | omega | (simp only [inK, lenR] at *; omega) | (simp; done) | fail)) (Nx.mk ?_); conv => whnf) | (refine Nx.mk ?_; conv => whnf))
            · have hi' : i < (eFrom g a).length := by omega
              have hx := hok2 hi'
              have he := hv.ends (i := ((eFrom g a).getD i 0).toNat) (by omega)
              have ch := sHas_fn (keys (addAll (sr (mfC g f.1) (s, -1) k) (fwdL g f.1 ((eFrom g a).take i)))) (g.2.1.getD ((eFrom g a).getD i 0).toNat default).2.1 (by omega)
              rw [hasK] at ch
              (refine VC_draw (sf := []) tysOk (by kernel_rfl) (by kernel_rfl) (Nx.mk ?_); conv => whnf)
              (repeat' first | (refine splitD (fun hs => Nx.mk ?_) (fun hs => Nx.mk ?_) <;> ((try simp only [Ct.len] at hs); revert hs; intro _; conv => whnf)) | (refine splitB (fun _ => Nx.mk ?_) (fun _ => Nx.mk ?_) <;> conv => whnf) | (refine idxNat (by (first | exact trivial | assumption | omega | (simp only [inK, lenR] at *; omega) | (simp; done) | fail)) (Nx.mk ?_); conv => whnf) | (refine idxPred (by omega) (by (first | exact trivial | assumption | omega | (simp only [inK, lenR] at *; omega) | (simp; done) | fail)) (Nx.mk ?_); conv => whnf) | (refine idxSucc (by (first | exact trivial | assumption | omega | (simp only [inK, lenR] at *; omega) | (simp; done) | fail)) (Nx.mk ?_); conv => whnf) | (refine idxTo (by omega) (by (first | exact trivial | assumption | omega | (simp only [inK, lenR] at *; omega) | (simp; done) | fail)) (Nx.mk ?_); conv => whnf) | (refine mkNat (by omega) (by omega) (Nx.mk ?_); conv => whnf) | (refine ar64 (by omega) (Nx.mk ?_); conv => whnf) | (refine ar_in (by (first | exact trivial | assumption | omega | (simp only [inK, lenR] at *; omega) | (simp; done) | fail)) (Nx.mk ?_); conv => whnf) | (refine nilQ (fun _ => Nx.mk ?_) (Nx.mk ?_) <;> conv => whnf) | (refine condN Try.underlying4 (Nx.mk ?_); conv => whnf) | (refine condN (by (first | exact trivial | assumption | omega | (simp only [inK, lenR] at *; omega) | (simp; done) | fail)) (Nx.mk ?_); conv => whnf) | (refine Nx.mk ?_; conv => whnf))
              (refine VC_draw (sf := []) tysOk (by kernel_rfl) (by kernel_rfl) (Nx.mk ?_); conv => whnf)
              (repeat' first | ((with_reducible show ∃ _ : Bool, _); first | (refine ⟨_, [], _, [], _, _, ch, rfl, trivial, ?_, Nx.mk ?_⟩; (focus (((repeat' ((try conv => whnf); (first | exact trivial | exact Eq.refl _ | exact Or.inl (Eq.refl _) | refine And.intro ?_ ?_ | exact fun _ _ _ _ => Eq.refl _ | refine cellJ (fun _ _ => ?_) | (refine cellB ?_; (conv => whnf); refine And.intro ?_ ?_) | exact Nat.le_of_ble_eq_true (Eq.refl true) | exact ⟨_, _, Eq.refl _, Eq.refl _⟩ | fail))) <;> (try conv => whnf)); done)); conv => whnf))  | (refine splitD (fun hs => Nx.mk ?_) (fun hs => Nx.mk ?_) <;> ((try simp only [Ct.len] at hs); revert hs; intro _; conv => whnf)) | (refine splitB (fun _ => Nx.mk ?_) (fun _ => Nx.mk ?_) <;> conv => whnf) | (refine idxNat (by (first | exact trivial | assumption | omega | (simp only [inK, lenR] at *; omega) | (simp; done) | fail)) (Nx.mk ?_); conv => whnf) | (refine idxPred (by omega) (by (first | exact trivial | assumption | omega | (simp only [inK, lenR] at *; omega) | (simp; done) | fail)) (Nx.mk ?_); conv => whnf) | (refine idxSucc (by (first | exact trivial | assumption | omega | (simp only [inK, lenR] at *; omega) | (simp; done) | fail)) (Nx.mk ?_); conv => whnf) | (refine idxTo (by omega) (by (first | exact trivial | assumption | omega | (simp only [inK, lenR] at *; omega) | (simp; done) | fail)) (Nx.mk ?_); conv => whnf) | (refine mkNat (by omega) (by omega) (Nx.mk ?_); conv => whnf) | (refine ar64 (by omega) (Nx.mk ?_); conv => whnf) | (refine ar_in (by (first | exact trivial | assumption | omega | (simp only [inK, lenR] at *; omega) | (simp; done) | fail)) (Nx.mk ?_); conv => whnf) | (refine nilQ (fun _ => Nx.mk ?_) (Nx.mk ?_) <;> conv => whnf) | (refine condN Try.underlying4 (Nx.mk ?_); conv => whnf) | (refine condN (by (first | exact trivial | assumption | omega | (simp only [inK, lenR] at *; omega) | (simp; done) | fail)) (Nx.mk ?_); conv => whnf) | (refine Nx.mk ?_; conv => whnf))
              all_goals first
                | (rename_i hlt hsn
                   have e9 := fwdT_add (g := g) (f := f.1) (l := eFrom g a) (m := (sr (mfC g f.1) (s, -1) k)) (i := i) hi' hlt (ntb hsn)
                   refine ⟨i + 1, by omega, by omega, ?_⟩
                   ((try conv => whnf); refine ⟨rfl, by rfl, ?_, ?_⟩ <;> ((repeat' ((try conv => whnf); (first | exact trivial | exact Eq.refl _ | exact Or.inl (Eq.refl _) | refine And.intro ?_ ?_ | exact fun _ _ _ _ => Eq.refl _ | refine cellJ (fun _ _ => ?_) | (refine cellB ?_; (conv => whnf); refine And.intro ?_ ?_) | exact Nat.le_of_ble_eq_true (Eq.refl true) | exact ⟨_, _, Eq.refl _, Eq.refl _⟩ | fail))) <;> (try conv => whnf)))
                   · rw [e9, keys_app]
                   · rw [e9]
                     exact byT_add he.2.2.1 he.2.2.2.1 (nots hsn hI1.root) (ntb hsn) (if_pos rfl).symm)
                | (have e9 := fwdT_skip (g := g) (f := f.1) (l := eFrom g a) (m := (sr (mfC g f.1) (s, -1) k)) (i := i) hi' (by first | exact .inl (by assumption) | exact .inr (by assumption))
                   refine ⟨i + 1, by omega, by omega, ?_⟩
                   ((try conv => whnf); refine ⟨rfl, by rfl, ?_, ?_⟩ <;> ((repeat' ((try conv => whnf); (first | exact trivial | exact Eq.refl _ | exact Or.inl (Eq.refl _) | refine And.intro ?_ ?_ | exact fun _ _ _ _ => Eq.refl _ | refine cellJ (fun _ _ => ?_) | (refine cellB ?_; (conv => whnf); refine And.intro ?_ ?_) | exact Nat.le_of_ble_eq_true (Eq.refl true) | exact ⟨_, _, Eq.refl _, Eq.refl _⟩ | fail))) <;> (try conv => whnf)))
                   · rw [e9]
                   · rw [e9])
            · have ei : i = (eFrom g a).length := by omega
              subst ei
              rw [take_all] at hI1 hL1 hkl1 hbl1 ⊢
              (repeat' first | ((with_reducible show ∃ _ : Bool, _); first | (refine ⟨_, [], _, [], _, _, sTo_fn g a (by omega), rfl, trivial, ?_, Nx.mk ?_⟩; (focus (((repeat' ((try conv => whnf); (first | exact trivial | exact Eq.refl _ | exact Or.inl (Eq.refl _) | refine And.intro ?_ ?_ | exact fun _ _ _ _ => Eq.refl _ | refine cellJ (fun _ _ => ?_) | (refine cellB ?_; (conv => whnf); refine And.intro ?_ ?_) | exact Nat.le_of_ble_eq_true (Eq.refl true) | exact ⟨_, _, Eq.refl _, Eq.refl _⟩ | fail))) <;> (try conv => whnf)); done)); conv => whnf))  | (refine splitD (fun hs => Nx.mk ?_) (fun hs => Nx.mk ?_) <;> ((try simp only [Ct.len] at hs); revert hs; intro _; conv => whnf)) | (refine splitB (fun _ => Nx.mk ?_) (fun _ => Nx.mk ?_) <;> conv => whnf) | (refine idxNat (by (first | exact trivial | assumption | omega | (simp only [inK, lenR] at *; omega) | (simp; done) | fail)) (Nx.mk ?_); conv => whnf) | (refine idxPred (by omega) (by (first | exact trivial | assumption | omega | (simp only [inK, lenR] at *; omega) | (simp; done) | fail)) (Nx.mk ?_); conv => whnf) | (refine idxSucc (by (first | exact trivial | assumption | omega | (simp only [inK, lenR] at *; omega) | (simp; done) | fail)) (Nx.mk ?_); conv => whnf) | (refine idxTo (by omega) (by (first | exact trivial | assumption | omega | (simp only [inK, lenR] at *; omega) | (simp; done) | fail)) (Nx.mk ?_); conv => whnf) | (refine mkNat (by omega) (by omega) (Nx.mk ?_); conv => whnf) | (refine ar64 (by omega) (Nx.mk ?_); conv => whnf) | (refine ar_in (by (first | exact trivial | assumption | omega | (simp only [inK, lenR] at *; omega) | (simp; done) | fail)) (Nx.mk ?_); conv => whnf) | (refine nilQ (fun _ => Nx.mk ?_) (Nx.mk ?_) <;> conv => whnf) | (refine condN Try.underlying4 (Nx.mk ?_); conv => whnf) | (refine condN (by (first | exact trivial | assumption | omega | (simp only [inK, lenR] at *; omega) | (simp; done) | fail)) (Nx.mk ?_); conv => whnf) | (refine Nx.mk ?_; conv => whnf))
              refine loopI tysOk [nm 32] (fun i : Nat => [(17, .I i), (10, .os (rt (nm 32)))]) (fun i => [(nm 32, some (.row 3 (.ints .i64 (keys (addAll (addAll (sr (mfC g f.1) (s, -1) k) (fwdL g f.1 (eFrom g a))) (bwdL g f.1 ((eTo g a).take i))))))), (nm 21, some (.row 3 (.ints .i64 (byT g s (addAll (addAll (sr (mfC g f.1) (s, -1) k) (fwdL g f.1 (eFrom g a))) (bwdL g f.1 ((eTo g a).take i)))))))]) (fun i => i ≤ (eTo g a).length) (fun i => (eTo g a).length - i) 0 (Nat.zero_le _) ?_ ?_
              · ((try conv => whnf); refine ⟨rfl, by rfl, ?_, ?_⟩ <;> ((repeat' ((try conv => whnf); (first | exact trivial | exact Eq.refl _ | exact Or.inl (Eq.refl _) | refine And.intro ?_ ?_ | exact fun _ _ _ _ => Eq.refl _ | refine cellJ (fun _ _ => ?_) | (refine cellB ?_; (conv => whnf); refine And.intro ?_ ?_) | exact Nat.le_of_ble_eq_true (Eq.refl true) | exact ⟨_, _, Eq.refl _, Eq.refl _⟩ | fail))) <;> (try conv => whnf)))
                · rw [bwdT_zero, addAll_nil']
                · rw [bwdT_zero, addAll_nil']
              · intro i hi
                have hx1 := addAll_ext (l := fwdL g f.1 (eFrom g a)) hk'
                have hI2 := addAll_inv (l := bwdL g f.1 ((eTo g a).take i)) hI1 (Nat.lt_of_lt_of_le hk' hx1.1) (by rw [hx1.2]; exact ha.symm) (fun p hp => ⟨bwdT_in p hp, mfC_rng hv _ p (bwdT_in p hp)⟩)
                have hL2 := hI2.len
                have hkl2 := keys_len (addAll (addAll (sr (mfC g f.1) (s, -1) k) (fwdL g f.1 (eFrom g a))) (bwdL g f.1 ((eTo g a).take i)))
                have hbl2 := byT_len g s (addAll (addAll (sr (mfC g f.1) (s, -1) k) (fwdL g f.1 (eFrom g a))) (bwdL g f.1 ((eTo g a).take i)))
                have hok3 : i < (eTo g a).length → _ := fun h => eTo_ok (g := g) (a := a) (k := i) h
                have hle2 : (eTo g a).length ≤ g.2.1.length := eTo_len
                (repeat' first | (refine splitD (fun hs => Nx.mk ?_) (fun hs => Nx.mk ?_) <;> ((try simp only [Ct.len] at hs); revert hs; intro _; conv => whnf)) | (refine splitB (fun _ => Nx.mk ?_) (fun _ => Nx.mk ?_) <;> conv => whnf) | (refine idxNat (by (first | exact trivial | assumption | omega | (simp only [inK, lenR] at *; omega) | (simp; done) | fail)) (Nx.mk ?_); conv => whnf) | (refine idxPred (by omega) (by (first | exact trivial | assumption | omega | (simp only [inK, lenR] at *; omega) | (simp; done) | fail)) (Nx.mk ?_); conv => whnf) | (refine idxSucc (by (first | exact trivial | assumption | omega | (simp only [inK, lenR] at *; omega) | (simp; done) | fail)) (Nx.mk ?_); conv => whnf) | (refine idxTo (by omega) (by (first | exact trivial | assumption | omega | (simp only [inK, lenR] at *; omega) | (simp; done) | fail)) (Nx.mk ?_); conv => whnf) | (refine mkNat (by omega) (by omega) (Nx.mk ?_); conv => whnf) | (refine ar64 (by omega) (Nx.mk ?_); conv => whnf) | (refine ar_in (by (first | exact trivial | assumption | omega | (simp only [inK, lenR] at *; omega) | (simp; done) | fail)) (Nx.mk ?_); conv => whnf) | (refine nilQ (fun _ => Nx.mk ?_) (Nx.mk ?_) <;> conv => whnf) | (refine condN Try.underlying4 (Nx.mk ?_); conv => whnf) | (refine condN (by (first | exact trivial | assumption | omega | (simp only [inK, lenR] at *; omega) | (simp; done) | fail)) (Nx.mk ?_); conv => whnf) | (refine Nx.mk ?_; conv => whnf))
                · have hi' : i < (eTo g a).length := by omega
                  have hx := hok3 hi'
                  have he := hv.ends (i := ((eTo g a).getD i 0).toNat) (by omega)
                  have ch := sHas_fn (keys (addAll (addAll (sr (mfC g f.1) (s, -1) k) (fwdL g f.1 (eFrom g a))) (bwdL g f.1 ((eTo g a).take i)))) (g.2.1.getD ((eTo g a).getD i 0).toNat default).1 (by omega)
                  rw [hasK] at ch
                  (refine VC_draw (sf := []) tysOk (by kernel_rfl) (by kernel_rfl) (Nx.mk ?_); conv => whnf)
                  (repeat' first | (refine splitD (fun hs => Nx.mk ?_) (fun hs => Nx.mk ?_) <;> ((try simp only [Ct.len] at hs); revert hs; intro _; conv => whnf)) | (refine splitB (fun _ => Nx.mk ?_) (fun _ => Nx.mk ?_) <;> conv => whnf) | (refine idxNat (by (first | exact trivial | assumption | omega | (simp only [inK, lenR] at *; omega) | (simp; done) | fail)) (Nx.mk ?_); conv => whnf) | (refine idxPred (by omega) (by (first | exact trivial | assumption | omega | (simp only [inK, lenR] at *; omega) | (simp; done) | fail)) (Nx.mk ?_); conv => whnf) | (refine idxSucc (by (first | exact trivial | assumption | omega | (simp only [inK, lenR] at *; omega) | (simp; done) | fail)) (Nx.mk ?_); conv => whnf) | (refine idxTo (by omega) (by (first | exact trivial | assumption | omega | (simp only [inK, lenR] at *; omega) | (simp; done) | fail)) (Nx.mk ?_); conv => whnf) | (refine mkNat (by omega) (by omega) (Nx.mk ?_); conv => whnf) | (refine ar64 (by omega) (Nx.mk ?_); conv => whnf) | (refine ar_in (by (first | exact trivial | assumption | omega | (simp only [inK, lenR] at *; omega) | (simp; done) | fail)) (Nx.mk ?_); conv => whnf) | (refine nilQ (fun _ => Nx.mk ?_) (Nx.mk ?_) <;> conv => whnf) | (refine condN Try.underlying4 (Nx.mk ?_); conv => whnf) | (refine condN (by (first | exact trivial | assumption | omega | (simp only [inK, lenR] at *; omega) | (simp; done) | fail)) (Nx.mk ?_); conv => whnf) | (refine Nx.mk ?_; conv => whnf))
                  (refine VC_draw (sf := []) tysOk (by kernel_rfl) (by kernel_rfl) (Nx.mk ?_); conv => whnf)
                  (repeat' first | ((with_reducible show ∃ _ : Bool, _); first | (refine ⟨_, [], _, [], _, _, ch, rfl, trivial, ?_, Nx.mk ?_⟩; (focus (((repeat' ((try conv => whnf); (first | exact trivial | exact Eq.refl _ | exact Or.inl (Eq.refl _) | refine And.intro ?_ ?_ | exact fun _ _ _ _ => Eq.refl _ | refine cellJ (fun _ _ => ?_) | (refine cellB ?_; (conv => whnf); refine And.intro ?_ ?_) | exact Nat.le_of_ble_eq_true (Eq.refl true) | exact ⟨_, _, Eq.refl _, Eq.refl _⟩ | fail))) <;> (try conv => whnf)); done)); conv => whnf))  | (refine splitD (fun hs => Nx.mk ?_) (fun hs => Nx.mk ?_) <;> ((try simp only [Ct.len] at hs); revert hs; intro _; conv => whnf)) | (refine splitB (fun _ => Nx.mk ?_) (fun _ => Nx.mk ?_) <;> conv => whnf) | (refine idxNat (by (first | exact trivial | assumption | omega | (simp only [inK, lenR] at *; omega) | (simp; done) | fail)) (Nx.mk ?_); conv => whnf) | (refine idxPred (by omega) (by (first | exact trivial | assumption | omega | (simp only [inK, lenR] at *; omega) | (simp; done) | fail)) (Nx.mk ?_); conv => whnf) | (refine idxSucc (by (first | exact trivial | assumption | omega | (simp only [inK, lenR] at *; omega) | (simp; done) | fail)) (Nx.mk ?_); conv => whnf) | (refine idxTo (by omega) (by (first | exact trivial | assumption | omega | (simp only [inK, lenR] at *; omega) | (simp; done) | fail)) (Nx.mk ?_); conv => whnf) | (refine mkNat (by omega) (by omega) (Nx.mk ?_); conv => whnf) | (refine ar64 (by omega) (Nx.mk ?_); conv => whnf) | (refine ar_in (by (first | exact trivial | assumption | omega | (simp only [inK, lenR] at *; omega) | (simp; done) | fail)) (Nx.mk ?_); conv => whnf) | (refine nilQ (fun _ => Nx.mk ?_) (Nx.mk ?_) <;> conv => whnf) | (refine condN Try.underlying4 (Nx.mk ?_); conv => whnf) | (refine condN (by (first | exact trivial | assumption | omega | (simp only [inK, lenR] at *; omega) | (simp; done) | fail)) (Nx.mk ?_); conv => whnf) | (refine Nx.mk ?_; conv => whnf))
                  all_goals first
                    | (rename_i hlt hsn
                       have e9 := bwdT_add (g := g) (f := f.1) (l := eTo g a) (m := (addAll (sr (mfC g f.1) (s, -1) k) (fwdL g f.1 (eFrom g a)))) (i := i) hi' hlt (ntb hsn)
                       (refine VC_draw (sf := []) tysOk (by kernel_rfl) (by kernel_rfl) (Nx.mk ?_); conv => whnf)
                       (repeat' first | (refine splitD (fun hs => Nx.mk ?_) (fun hs => Nx.mk ?_) <;> ((try simp only [Ct.len] at hs); revert hs; intro _; conv => whnf)) | (refine splitB (fun _ => Nx.mk ?_) (fun _ => Nx.mk ?_) <;> conv => whnf) | (refine idxNat (by (first | exact trivial | assumption | omega | (simp only [inK, lenR] at *; omega) | (simp; done) | fail)) (Nx.mk ?_); conv => whnf) | (refine idxPred (by omega) (by (first | exact trivial | assumption | omega | (simp only [inK, lenR] at *; omega) | (simp; done) | fail)) (Nx.mk ?_); conv => whnf) | (refine idxSucc (by (first | exact trivial | assumption | omega | (simp only [inK, lenR] at *; omega) | (simp; done) | fail)) (Nx.mk ?_); conv => whnf) | (refine idxTo (by omega) (by (first | exact trivial | assumption | omega | (simp only [inK, lenR] at *; omega) | (simp; done) | fail)) (Nx.mk ?_); conv => whnf) | (refine mkNat (by omega) (by omega) (Nx.mk ?_); conv => whnf) | (refine ar64 (by omega) (Nx.mk ?_); conv => whnf) | (refine ar_in (by (first | exact trivial | assumption | omega | (simp only [inK, lenR] at *; omega) | (simp; done) | fail)) (Nx.mk ?_); conv => whnf) | (refine nilQ (fun _ => Nx.mk ?_) (Nx.mk ?_) <;> conv => whnf) | (refine condN Try.underlying4 (Nx.mk ?_); conv => whnf) | (refine condN (by (first | exact trivial | assumption | omega | (simp only [inK, lenR] at *; omega) | (simp; done) | fail)) (Nx.mk ?_); conv => whnf) | (refine Nx.mk ?_; conv => whnf))
                       refine ⟨i + 1, by omega, by omega, ?_⟩
                       ((try conv => whnf); refine ⟨rfl, by rfl, ?_, ?_⟩ <;> ((repeat' ((try conv => whnf); (first | exact trivial | exact Eq.refl _ | exact Or.inl (Eq.refl _) | refine And.intro ?_ ?_ | exact fun _ _ _ _ => Eq.refl _ | refine cellJ (fun _ _ => ?_) | (refine cellB ?_; (conv => whnf); refine And.intro ?_ ?_) | exact Nat.le_of_ble_eq_true (Eq.refl true) | exact ⟨_, _, Eq.refl _, Eq.refl _⟩ | fail))) <;> (try conv => whnf)))
                       · rw [e9, keys_app]
                       · rw [e9]
                         exact byT_add he.1 he.2.1 (nots hsn hI2.root) (ntb hsn) (if_neg (fun h5 => he.2.2.2.2 h5.symm)).symm)
                    | (have e9 := bwdT_skip (g := g) (f := f.1) (l := eTo g a) (m := (addAll (sr (mfC g f.1) (s, -1) k) (fwdL g f.1 (eFrom g a)))) (i := i) hi' (by first | exact .inl (by assumption) | exact .inr (by assumption))
                       refine ⟨i + 1, by omega, by omega, ?_⟩
                       ((try conv => whnf); refine ⟨rfl, by rfl, ?_, ?_⟩ <;> ((repeat' ((try conv => whnf); (first | exact trivial | exact Eq.refl _ | exact Or.inl (Eq.refl _) | refine And.intro ?_ ?_ | exact fun _ _ _ _ => Eq.refl _ | refine cellJ (fun _ _ => ?_) | (refine cellB ?_; (conv => whnf); refine And.intro ?_ ?_) | exact Nat.le_of_ble_eq_true (Eq.refl true) | exact ⟨_, _, Eq.refl _, Eq.refl _⟩ | fail))) <;> (try conv => whnf)))
                       · rw [e9]
                       · rw [e9])
                · have ei : i = (eTo g a).length := by omega
                  subst ei
                  rw [take_all] at hI2 hL2 hkl2 hbl2 ⊢
                  have e9 : sr (mfC g f.1) (s, -1) (k + 1) = addAll (addAll (sr (mfC g f.1) (s, -1) k) (fwdL g f.1 (eFrom g a))) (bwdL g f.1 (eTo g a)) := by
                    rw [sr_succ' hk', ← ha, mfC_eq, addAll_cat']
                  have hx2 := addAll_ext (l := bwdL g f.1 (eTo g a)) (Nat.lt_of_lt_of_le hk' hx1.1)
                  refine ⟨k + 1, by rw [e9]; omega, by omega, ?_⟩
                  ((try conv => whnf); refine ⟨rfl, by rfl, ?_, ?_⟩ <;> ((repeat' ((try conv => whnf); (first | exact trivial | exact Eq.refl _ | exact Or.inl (Eq.refl _) | refine And.intro ?_ ?_ | exact fun _ _ _ _ => Eq.refl _ | refine cellJ (fun _ _ => ?_) | (refine cellB ?_; (conv => whnf); refine And.intro ?_ ?_) | exact Nat.le_of_ble_eq_true (Eq.refl true) | exact ⟨_, _, Eq.refl _, Eq.refl _⟩ | fail))) <;> (try conv => whnf)))
                  · rw [e9]
                  · rw [e9]
        · have hk2 : (sr (mfC g f.1) (s, -1) k).length ≤ k := by omega
          have hM : sr (mfC g f.1) (s, -1) k = mfM g f.1 s := (srM_eq ⟨hs0, hs1⟩ (mfC_rng hv) hg2 hk2).trans mfM_eq.symm
          rw [hM]
          refine ⟨[(16, nm 32), (17, nm 21)], rfl, ?_, ?_, ?_, fun _ => ?_⟩
          · ((try conv => whnf); refine ⟨rfl, by rfl, ?_, ?_⟩ <;> ((repeat' ((try conv => whnf); (first | exact trivial | exact Eq.refl _ | exact Or.inl (Eq.refl _) | refine And.intro ?_ ?_ | exact fun _ _ _ _ => Eq.refl _ | refine cellJ (fun _ _ => ?_) | (refine cellB ?_; (conv => whnf); refine And.intro ?_ ?_) | exact Nat.le_of_ble_eq_true (Eq.refl true) | exact ⟨_, _, Eq.refl _, Eq.refl _⟩ | fail))) <;> (try conv => whnf)))
          all_goals ((repeat' ((try conv => whnf); (first | exact trivial | exact Eq.refl _ | exact Or.inl (Eq.refl _) | refine And.intro ?_ ?_ | exact fun _ _ _ _ => Eq.refl _ | refine cellJ (fun _ _ => ?_) | (refine cellB ?_; (conv => whnf); refine And.intro ?_ ?_) | exact Nat.le_of_ble_eq_true (Eq.refl true) | exact ⟨_, _, Eq.refl _, Eq.refl _⟩ | fail))) <;> (try conv => whnf))
end Go.Proofs.Ytmnbpamaiboghaa
