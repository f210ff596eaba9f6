/-
  The greatest flow of the program.
-/
import Derived.Test.YtmnbpamaiboghaaFq
namespace Go.Proofs.Ytmnbpamaiboghaa
set_option linter.unusedVariables false
set_option linter.unusedSimpArgs false
set_option maxRecDepth 100000
set_option maxHeartbeats 4000000
attribute [local irreducible] Fn
theorem idxs_mono {φ : Edg → Bool} {es : List Edg} {i j : Nat} {x : Int} (h : i ≤ j) (hx : x ∈ idxs φ es i) : x ∈ idxs φ es j := by
  obtain ⟨k, h1, h2, h3⟩ := idxs_mem.1 hx
  exact idxs_mem.2 ⟨k, by omega, h2, h3⟩
theorem fwd_in {g : Gr} {f : List Int} {a : Int} {j : Nat} (hj : j ≤ g.2.1.length) : ∀ p ∈ fwdL g f (idxs (fromB a) g.2.1 j), p ∈ mfC g f a := by
  intro p hp
  obtain ⟨x, h1, h2⟩ := List.mem_flatMap.1 hp
  exact List.mem_append.2 (.inl (List.mem_flatMap.2 ⟨x, idxs_mono hj h1, h2⟩))
theorem bwd_in {g : Gr} {f : List Int} {a : Int} {j : Nat} (hj : j ≤ g.2.1.length) : ∀ p ∈ bwdL g f (idxs (toB a) g.2.1 j), p ∈ mfC g f a := by
  intro p hp
  obtain ⟨x, h1, h2⟩ := List.mem_flatMap.1 hp
  exact List.mem_append.2 (.inr (List.mem_flatMap.2 ⟨x, idxs_mono hj h1, h2⟩))
theorem fwd_add {g : Gr} {f : List Int} {a : Int} {m : Pairs} {j : Nat} (h1 : (eAt g j).1 = a) (h2 : f.getD j 0 < (eAt g j).2.2.1) (h3 : ¬ mhas (addAll m (fwdL g f (idxs (fromB a) g.2.1 j))) (eAt g j).2.1 = true) :
    addAll m (fwdL g f (idxs (fromB a) g.2.1 (j + 1))) = addAll m (fwdL g f (idxs (fromB a) g.2.1 j)) ++ [((eAt g j).2.1, (j : Int))] := by
  have e : idxs (fromB a) g.2.1 (j + 1) = idxs (fromB a) g.2.1 j ++ [(j : Int)] := if_pos (decide_eq_true h1)
  have e2 : fwdL g f (idxs (fromB a) g.2.1 (j + 1)) = fwdL g f (idxs (fromB a) g.2.1 j) ++ [((eAt g j).2.1, (j : Int))] := by
    rw [e]; unfold fwdL; rw [List.flatMap_append]
    have : ((j : Int)).toNat = j := rfl
    simp only [List.flatMap_cons, List.flatMap_nil, this, if_pos h2, List.append_nil]
  rw [e2, addAll_app, addC_new h3]
theorem fwd_skip {g : Gr} {f : List Int} {a : Int} {m : Pairs} {j : Nat} (h : ¬ (eAt g j).1 = a ∨ ¬ f.getD j 0 < (eAt g j).2.2.1 ∨ mhas (addAll m (fwdL g f (idxs (fromB a) g.2.1 j))) (eAt g j).2.1 = true) :
    addAll m (fwdL g f (idxs (fromB a) g.2.1 (j + 1))) = addAll m (fwdL g f (idxs (fromB a) g.2.1 j)) := by
  by_cases h1 : (eAt g j).1 = a
  · have e : idxs (fromB a) g.2.1 (j + 1) = idxs (fromB a) g.2.1 j ++ [(j : Int)] := if_pos (decide_eq_true h1)
    have ej : ((j : Int)).toNat = j := rfl
    by_cases h2 : f.getD j 0 < (eAt g j).2.2.1
    · have e2 : fwdL g f (idxs (fromB a) g.2.1 (j + 1)) = fwdL g f (idxs (fromB a) g.2.1 j) ++ [((eAt g j).2.1, (j : Int))] := by
        rw [e]; unfold fwdL; rw [List.flatMap_append]
        simp only [List.flatMap_cons, List.flatMap_nil, ej, if_pos h2, List.append_nil]
      rw [e2, addAll_app, addC_old]
      rcases h with h | h | h
      · exact absurd h1 h
      · exact absurd h2 h
      · exact h
    · have e2 : fwdL g f (idxs (fromB a) g.2.1 (j + 1)) = fwdL g f (idxs (fromB a) g.2.1 j) := by
        rw [e]; unfold fwdL; rw [List.flatMap_append]
        simp only [List.flatMap_cons, List.flatMap_nil, ej, if_neg h2, List.append_nil]
      rw [e2]
  · have e : idxs (fromB a) g.2.1 (j + 1) = idxs (fromB a) g.2.1 j := if_neg (fun hc => h1 (of_decide_eq_true hc))
    rw [e]
theorem bwd_add {g : Gr} {f : List Int} {a : Int} {m : Pairs} {j : Nat} (h1 : (eAt g j).2.1 = a) (h2 : 0 < f.getD j 0) (h3 : ¬ mhas (addAll m (bwdL g f (idxs (toB a) g.2.1 j))) (eAt g j).1 = true) :
    addAll m (bwdL g f (idxs (toB a) g.2.1 (j + 1))) = addAll m (bwdL g f (idxs (toB a) g.2.1 j)) ++ [((eAt g j).1, (j : Int))] := by
  have e : idxs (toB a) g.2.1 (j + 1) = idxs (toB a) g.2.1 j ++ [(j : Int)] := if_pos (decide_eq_true h1)
  have e2 : bwdL g f (idxs (toB a) g.2.1 (j + 1)) = bwdL g f (idxs (toB a) g.2.1 j) ++ [((eAt g j).1, (j : Int))] := by
    rw [e]; unfold bwdL; rw [List.flatMap_append]
    have : ((j : Int)).toNat = j := rfl
    simp only [List.flatMap_cons, List.flatMap_nil, this, if_pos h2, List.append_nil]
  rw [e2, addAll_app, addC_new h3]
theorem bwd_skip {g : Gr} {f : List Int} {a : Int} {m : Pairs} {j : Nat} (h : ¬ (eAt g j).2.1 = a ∨ ¬ 0 < f.getD j 0 ∨ mhas (addAll m (bwdL g f (idxs (toB a) g.2.1 j))) (eAt g j).1 = true) :
    addAll m (bwdL g f (idxs (toB a) g.2.1 (j + 1))) = addAll m (bwdL g f (idxs (toB a) g.2.1 j)) := by
  by_cases h1 : (eAt g j).2.1 = a
  · have e : idxs (toB a) g.2.1 (j + 1) = idxs (toB a) g.2.1 j ++ [(j : Int)] := if_pos (decide_eq_true h1)
    have ej : ((j : Int)).toNat = j := rfl
    by_cases h2 : 0 < f.getD j 0
    · have e2 : bwdL g f (idxs (toB a) g.2.1 (j + 1)) = bwdL g f (idxs (toB a) g.2.1 j) ++ [((eAt g j).1, (j : Int))] := by
        rw [e]; unfold bwdL; rw [List.flatMap_append]
        simp only [List.flatMap_cons, List.flatMap_nil, ej, if_pos h2, List.append_nil]
      rw [e2, addAll_app, addC_old]
      rcases h with h | h | h
      · exact absurd h1 h
      · exact absurd h2 h
      · exact h
    · have e2 : bwdL g f (idxs (toB a) g.2.1 (j + 1)) = bwdL g f (idxs (toB a) g.2.1 j) := by
        rw [e]; unfold bwdL; rw [List.flatMap_append]
        simp only [List.flatMap_cons, List.flatMap_nil, ej, if_neg h2, List.append_nil]
      rw [e2]
  · have e : idxs (toB a) g.2.1 (j + 1) = idxs (toB a) g.2.1 j := if_neg (fun hc => h1 (of_decide_eq_true hc))
    rw [e]
theorem aug_at {g : Gr} {m : Pairs} {s : Int} {f : List Int} : ∀ {n : Nat}, aug g m s n s f = f := by
  intro n; cases n <;> simp [aug]
theorem keys_one {x v : Int} : keys [(x, v)] = [x] := rfl
theorem mfM_eq {g : Gr} {f : List Int} {s : Int} : mfM g f s = srM (mfC g f) (s, -1) := rfl
theorem mfF_eq {g : Gr} {s t : Int} : mfF g s t = mfRun g s t 200 (List.replicate g.2.1.length 0) := rfl
theorem mfRun_stop {g : Gr} {s t : Int} {f : List Int} {n : Nat} (h : mhas (mfM g f s) t = false) : mfRun g s t (n + 1) f = f := if_neg (by simp [h])
theorem mfRun_next {g : Gr} {s t : Int} {f : List Int} {n : Nat} (h : mhas (mfM g f s) t = true) : mfRun g s t (n + 1) f = mfRun g s t n (aug g (mfM g f s) s 8 t f) := if_pos h
theorem aug_step {g : Gr} {m : Pairs} {s a : Int} {f : List Int} {n : Nat} (h : a ≠ s) : aug g m s (n + 1) a f = aug g m s n (augS g m a f).2 (augS g m a f).1 := if_neg h
theorem augS_pos {g : Gr} {m : Pairs} {a : Int} {f : List Int} (h : (eAt g (mgetI m a).toNat).2.1 = a) : augS g m a f = (f.set (mgetI m a).toNat (f.getD (mgetI m a).toNat 0 + 1), (eAt g (mgetI m a).toNat).1) := if_pos h
theorem augS_neg {g : Gr} {m : Pairs} {a : Int} {f : List Int} (h : ¬ (eAt g (mgetI m a).toNat).2.1 = a) : augS g m a f = (f.set (mgetI m a).toNat (f.getD (mgetI m a).toNat 0 - 1), (eAt g (mgetI m a).toNat).2.1) := if_neg h
theorem ntb {b : Bool} (h : b = false) : ¬ b = true := by simp [h]
theorem sr_succ {C : Int → Pairs} {r : Int × Int} {k : Nat} (h : k < (sr C r k).length) : sr C r (k + 1) = addAll (sr C r k) (C ((sr C r k).getD k default).1) := if_pos h
theorem sr_zero {C : Int → Pairs} {r : Int × Int} : sr C r 0 = [r] := rfl
theorem mset_nil {x v : Int} : mset ([] : Pairs) x v = [(x, v)] := rfl
theorem addAll_nil {m : Pairs} : addAll m [] = m := rfl
theorem fwd_zero {g : Gr} {f : List Int} {a : Int} : fwdL g f (idxs (fromB a) g.2.1 0) = [] := rfl
theorem bwd_zero {g : Gr} {f : List Int} {a : Int} : bwdL g f (idxs (toB a) g.2.1 0) = [] := rfl
attribute [local irreducible] addAll fwdL bwdL idxs sr mset mhas mgetI keys mfRun aug augS mfM mfF netS
theorem iMf_fn (g : Gr) (s t : Int) (hq : Quest g s t) : Fn Try.prog 100 true (.cons (GrA g) (.cons (.I s) (.cons (.I t) .nil))) [] (.tup (.cons (.os (rt 16)) (.cons (.os (rt 17)) .nil))) [(16, .row 3 (.ints .i64 (mfF g s t))), (17, .row 3 (.ints .i64 (keys (mfM g (mfF g s t) s))))] := by
  have hlen := hq.v.len
  have hg1 := hq.v.lo
  have hg2 := hq.v.hi
  have hs0 := hq.s0
  have hs1 := hq.s1
  (refine Fn_of tysOk Try.func100 rfl rfl (by simp [AV.len, Try.f100]) ⟨?_⟩; conv => whnf)
  (repeat' first | (refine splitD (fun hs => Nx.mk ?_) (fun hs => Nx.mk ?_) <;> ((try simp only [Ct.len] at hs); revert hs; intro _; conv => whnf)) | (refine splitB (fun _ => Nx.mk ?_) (fun _ => Nx.mk ?_) <;> conv => whnf) | (refine idxNat (by (first | exact trivial | assumption | omega | (simp only [inK, lenR] at *; omega) | (simp; done) | fail)) (Nx.mk ?_); conv => whnf) | (refine idxPred (by omega) (by (first | exact trivial | assumption | omega | (simp only [inK, lenR] at *; omega) | (simp; done) | fail)) (Nx.mk ?_); conv => whnf) | (refine idxSucc (by (first | exact trivial | assumption | omega | (simp only [inK, lenR] at *; omega) | (simp; done) | fail)) (Nx.mk ?_); conv => whnf) | (refine idxTo (by omega) (by (first | exact trivial | assumption | omega | (simp only [inK, lenR] at *; omega) | (simp; done) | fail)) (Nx.mk ?_); conv => whnf) | (refine mkNat (by omega) (by omega) (Nx.mk ?_); conv => whnf) | (refine ar64 (by omega) (Nx.mk ?_); conv => whnf) | (refine ar_in (by (first | exact trivial | assumption | omega | (simp only [inK, lenR] at *; omega) | (simp; done) | fail)) (Nx.mk ?_); conv => whnf) | (refine nilQ (fun _ => Nx.mk ?_) (Nx.mk ?_) <;> conv => whnf) | (refine condN Try.underlying4 (Nx.mk ?_); conv => whnf) | (refine condN (by (first | exact trivial | assumption | omega | (simp only [inK, lenR] at *; omega) | (simp; done) | fail)) (Nx.mk ?_); conv => whnf) | (refine Nx.mk ?_; conv => whnf))
  refine loopI tysOk [] (fun i : Nat × List Int => []) (fun i => [(nm 28, some (.row 3 (.ints .i64 i.2)))]) (fun i => mfF g s t = mfRun g s t i.1 i.2 ∧ FlowOk g i.2 ∧ (i.1 : Int) + netS g i.2 s g.2.1.length = 200) (fun i => i.1) (200, List.replicate g.2.1.length 0) ⟨mfF_eq, flowOk_zero hq.v, by rw [netS_zero]; rfl⟩ ?_ ?_
  · ((try conv => whnf); refine ⟨rfl, by rfl, ?_, ?_⟩ <;> ((repeat' ((try conv => whnf); (first | exact trivial | exact Eq.refl _ | exact Or.inl (Eq.refl _) | refine And.intro ?_ ?_ | exact fun _ _ _ _ => Eq.refl _ | refine cellJ (fun _ _ => ?_) | (refine cellB ?_; (conv => whnf); refine And.intro ?_ ?_) | exact Nat.le_of_ble_eq_true (Eq.refl true) | exact ⟨_, _, Eq.refl _, Eq.refl _⟩ | fail))) <;> (try conv => whnf)))
  · rintro ⟨n, f⟩ ⟨hF, hok, hn⟩
    have hfl := hok.len
    have hsm := hok.small hq.v
    have hle := netS_le (b := s) hq.v hok
    simp only at hF hok hn hfl hsm hle
    (repeat' first | (refine splitD (fun hs => Nx.mk ?_) (fun hs => Nx.mk ?_) <;> ((try simp only [Ct.len] at hs); revert hs; intro _; conv => whnf)) | (refine splitB (fun _ => Nx.mk ?_) (fun _ => Nx.mk ?_) <;> conv => whnf) | (refine idxNat (by (first | exact trivial | assumption | omega | (simp only [inK, lenR] at *; omega) | (simp; done) | fail)) (Nx.mk ?_); conv => whnf) | (refine idxPred (by omega) (by (first | exact trivial | assumption | omega | (simp only [inK, lenR] at *; omega) | (simp; done) | fail)) (Nx.mk ?_); conv => whnf) | (refine idxSucc (by (first | exact trivial | assumption | omega | (simp only [inK, lenR] at *; omega) | (simp; done) | fail)) (Nx.mk ?_); conv => whnf) | (refine idxTo (by omega) (by (first | exact trivial | assumption | omega | (simp only [inK, lenR] at *; omega) | (simp; done) | fail)) (Nx.mk ?_); conv => whnf) | (refine mkNat (by omega) (by omega) (Nx.mk ?_); conv => whnf) | (refine ar64 (by omega) (Nx.mk ?_); conv => whnf) | (refine ar_in (by (first | exact trivial | assumption | omega | (simp only [inK, lenR] at *; omega) | (simp; done) | fail)) (Nx.mk ?_); conv => whnf) | (refine nilQ (fun _ => Nx.mk ?_) (Nx.mk ?_) <;> conv => whnf) | (refine condN Try.underlying4 (Nx.mk ?_); conv => whnf) | (refine condN (by (first | exact trivial | assumption | omega | (simp only [inK, lenR] at *; omega) | (simp; done) | fail)) (Nx.mk ?_); conv => whnf) | (refine Nx.mk ?_; conv => whnf))
    refine loopI tysOk [nm 33] (fun k : Nat => [(11, .I k), (10, .os (rt (nm 33)))]) (fun k => [(nm 29, some (.mp 150 (.ints .i64 (sr (mfC g f) (s, -1) k)))), (nm 33, some (.row 3 (.ints .i64 (keys (sr (mfC g f) (s, -1) k)))))]) (fun k => k ≤ (sr (mfC g f) (s, -1) k).length) (fun k => 8 - k) 0 (Nat.zero_le _) ?_ ?_
    · ((try conv => whnf); refine ⟨rfl, by rfl, ?_, ?_⟩ <;> ((repeat' ((try conv => whnf); (first | exact trivial | exact Eq.refl _ | exact Or.inl (Eq.refl _) | refine And.intro ?_ ?_ | exact fun _ _ _ _ => Eq.refl _ | refine cellJ (fun _ _ => ?_) | (refine cellB ?_; (conv => whnf); refine And.intro ?_ ?_) | exact Nat.le_of_ble_eq_true (Eq.refl true) | exact ⟨_, _, Eq.refl _, Eq.refl _⟩ | fail))) <;> (try conv => whnf)))
      · rw [sr_zero, mset_nil]
      · rw [sr_zero, keys_one]
    · intro k hk
      have hI := sr_inv (C := mfC g f) (r := (s, -1)) ⟨hs0, hs1⟩ (mfC_rng hq.v) (k := k)
      have hL := hI.len
      have hkl := keys_len (sr (mfC g f) (s, -1) k)
      (repeat' first | (refine splitD (fun hs => Nx.mk ?_) (fun hs => Nx.mk ?_) <;> ((try simp only [Ct.len] at hs); revert hs; intro _; conv => whnf)) | (refine splitB (fun _ => Nx.mk ?_) (fun _ => Nx.mk ?_) <;> conv => whnf) | (refine idxNat (by (first | exact trivial | assumption | omega | (simp only [inK, lenR] at *; omega) | (simp; done) | fail)) (Nx.mk ?_); conv => whnf) | (refine idxPred (by omega) (by (first | exact trivial | assumption | omega | (simp only [inK, lenR] at *; omega) | (simp; done) | fail)) (Nx.mk ?_); conv => whnf) | (refine idxSucc (by (first | exact trivial | assumption | omega | (simp only [inK, lenR] at *; omega) | (simp; done) | fail)) (Nx.mk ?_); conv => whnf) | (refine idxTo (by omega) (by (first | exact trivial | assumption | omega | (simp only [inK, lenR] at *; omega) | (simp; done) | fail)) (Nx.mk ?_); conv => whnf) | (refine mkNat (by omega) (by omega) (Nx.mk ?_); conv => whnf) | (refine ar64 (by omega) (Nx.mk ?_); conv => whnf) | (refine ar_in (by (first | exact trivial | assumption | omega | (simp only [inK, lenR] at *; omega) | (simp; done) | fail)) (Nx.mk ?_); conv => whnf) | (refine nilQ (fun _ => Nx.mk ?_) (Nx.mk ?_) <;> conv => whnf) | (refine condN Try.underlying4 (Nx.mk ?_); conv => whnf) | (refine condN (by (first | exact trivial | assumption | omega | (simp only [inK, lenR] at *; omega) | (simp; done) | fail)) (Nx.mk ?_); conv => whnf) | (refine Nx.mk ?_; conv => whnf))
      · have hk' : k < (sr (mfC g f) (s, -1) k).length := by omega
        have ha : (keys (sr (mfC g f) (s, -1) k)).getD k 0 = ((sr (mfC g f) (s, -1) k).getD k default).1 := keys_getD hk'
        generalize hA : (keys (sr (mfC g f) (s, -1) k)).getD k 0 = a at *
        refine loopI tysOk [nm 33] (fun j : Nat => [(47, .I j), (10, .os (rt (nm 33)))]) (fun j => [(nm 29, some (.mp 150 (.ints .i64 (addAll (sr (mfC g f) (s, -1) k) (fwdL g f (idxs (fromB a) g.2.1 j)))))), (nm 33, some (.row 3 (.ints .i64 (keys (addAll (sr (mfC g f) (s, -1) k) (fwdL g f (idxs (fromB a) g.2.1 j)))))))]) (fun j => j ≤ g.2.1.length) (fun j => g.2.1.length - j) 0 (Nat.zero_le _) ?_ ?_
        · ((try conv => whnf); refine ⟨rfl, by rfl, ?_, ?_⟩ <;> ((repeat' ((try conv => whnf); (first | exact trivial | exact Eq.refl _ | exact Or.inl (Eq.refl _) | refine And.intro ?_ ?_ | exact fun _ _ _ _ => Eq.refl _ | refine cellJ (fun _ _ => ?_) | (refine cellB ?_; (conv => whnf); refine And.intro ?_ ?_) | exact Nat.le_of_ble_eq_true (Eq.refl true) | exact ⟨_, _, Eq.refl _, Eq.refl _⟩ | fail))) <;> (try conv => whnf)))
          · rw [fwd_zero, addAll_nil]
          · rw [fwd_zero, addAll_nil]
        · intro j hj
          have hI1 := addAll_inv (l := fwdL g f (idxs (fromB a) g.2.1 j)) hI hk' ha.symm (fun p hp => ⟨fwd_in hj p hp, mfC_rng hq.v _ p (fwd_in hj p hp)⟩)
          have hL1 := hI1.len
          have hkl1 := keys_len (addAll (sr (mfC g f) (s, -1) k) (fwdL g f (idxs (fromB a) g.2.1 j)))
          (repeat' first | (refine splitD (fun hs => Nx.mk ?_) (fun hs => Nx.mk ?_) <;> ((try simp only [Ct.len] at hs); revert hs; intro _; conv => whnf)) | (refine splitB (fun _ => Nx.mk ?_) (fun _ => Nx.mk ?_) <;> conv => whnf) | (refine idxNat (by (first | exact trivial | assumption | omega | (simp only [inK, lenR] at *; omega) | (simp; done) | fail)) (Nx.mk ?_); conv => whnf) | (refine idxPred (by omega) (by (first | exact trivial | assumption | omega | (simp only [inK, lenR] at *; omega) | (simp; done) | fail)) (Nx.mk ?_); conv => whnf) | (refine idxSucc (by (first | exact trivial | assumption | omega | (simp only [inK, lenR] at *; omega) | (simp; done) | fail)) (Nx.mk ?_); conv => whnf) | (refine idxTo (by omega) (by (first | exact trivial | assumption | omega | (simp only [inK, lenR] at *; omega) | (simp; done) | fail)) (Nx.mk ?_); conv => whnf) | (refine mkNat (by omega) (by omega) (Nx.mk ?_); conv => whnf) | (refine ar64 (by omega) (Nx.mk ?_); conv => whnf) | (refine ar_in (by (first | exact trivial | assumption | omega | (simp only [inK, lenR] at *; omega) | (simp; done) | fail)) (Nx.mk ?_); conv => whnf) | (refine nilQ (fun _ => Nx.mk ?_) (Nx.mk ?_) <;> conv => whnf) | (refine condN Try.underlying4 (Nx.mk ?_); conv => whnf) | (refine condN (by (first | exact trivial | assumption | omega | (simp only [inK, lenR] at *; omega) | (simp; done) | fail)) (Nx.mk ?_); conv => whnf) | (refine Nx.mk ?_; conv => whnf))
          · rename_i hjl hseen
            (refine VC_draw (sf := []) tysOk (by kernel_rfl) (by kernel_rfl) (Nx.mk ?_); conv => whnf)
            (repeat' first | (refine splitD (fun hs => Nx.mk ?_) (fun hs => Nx.mk ?_) <;> ((try simp only [Ct.len] at hs); revert hs; intro _; conv => whnf)) | (refine splitB (fun _ => Nx.mk ?_) (fun _ => Nx.mk ?_) <;> conv => whnf) | (refine idxNat (by (first | exact trivial | assumption | omega | (simp only [inK, lenR] at *; omega) | (simp; done) | fail)) (Nx.mk ?_); conv => whnf) | (refine idxPred (by omega) (by (first | exact trivial | assumption | omega | (simp only [inK, lenR] at *; omega) | (simp; done) | fail)) (Nx.mk ?_); conv => whnf) | (refine idxSucc (by (first | exact trivial | assumption | omega | (simp only [inK, lenR] at *; omega) | (simp; done) | fail)) (Nx.mk ?_); conv => whnf) | (refine idxTo (by omega) (by (first | exact trivial | assumption | omega | (simp only [inK, lenR] at *; omega) | (simp; done) | fail)) (Nx.mk ?_); conv => whnf) | (refine mkNat (by omega) (by omega) (Nx.mk ?_); conv => whnf) | (refine ar64 (by omega) (Nx.mk ?_); conv => whnf) | (refine ar_in (by (first | exact trivial | assumption | omega | (simp only [inK, lenR] at *; omega) | (simp; done) | fail)) (Nx.mk ?_); conv => whnf) | (refine nilQ (fun _ => Nx.mk ?_) (Nx.mk ?_) <;> conv => whnf) | (refine condN Try.underlying4 (Nx.mk ?_); conv => whnf) | (refine condN (by (first | exact trivial | assumption | omega | (simp only [inK, lenR] at *; omega) | (simp; done) | fail)) (Nx.mk ?_); conv => whnf) | (refine Nx.mk ?_; conv => whnf))
            all_goals
              have e9 := fwd_skip (g := g) (f := f) (a := a) (m := (sr (mfC g f) (s, -1) k)) (j := j) (.inr (.inr hseen))
              refine ⟨j + 1, by omega, by omega, ?_⟩
              ((try conv => whnf); refine ⟨rfl, by rfl, ?_, ?_⟩ <;> ((repeat' ((try conv => whnf); (first | exact trivial | exact Eq.refl _ | exact Or.inl (Eq.refl _) | refine And.intro ?_ ?_ | exact fun _ _ _ _ => Eq.refl _ | refine cellJ (fun _ _ => ?_) | (refine cellB ?_; (conv => whnf); refine And.intro ?_ ?_) | exact Nat.le_of_ble_eq_true (Eq.refl true) | exact ⟨_, _, Eq.refl _, Eq.refl _⟩ | fail))) <;> (try conv => whnf)))
              · exact e9.symm
              · rw [e9]
          · rename_i hjl hseen
            (refine VC_draw (sf := []) tysOk (by kernel_rfl) (by kernel_rfl) (Nx.mk ?_); conv => whnf)
            (repeat' first | (refine splitD (fun hs => Nx.mk ?_) (fun hs => Nx.mk ?_) <;> ((try simp only [Ct.len] at hs); revert hs; intro _; conv => whnf)) | (refine splitB (fun _ => Nx.mk ?_) (fun _ => Nx.mk ?_) <;> conv => whnf) | (refine idxNat (by (first | exact trivial | assumption | omega | (simp only [inK, lenR] at *; omega) | (simp; done) | fail)) (Nx.mk ?_); conv => whnf) | (refine idxPred (by omega) (by (first | exact trivial | assumption | omega | (simp only [inK, lenR] at *; omega) | (simp; done) | fail)) (Nx.mk ?_); conv => whnf) | (refine idxSucc (by (first | exact trivial | assumption | omega | (simp only [inK, lenR] at *; omega) | (simp; done) | fail)) (Nx.mk ?_); conv => whnf) | (refine idxTo (by omega) (by (first | exact trivial | assumption | omega | (simp only [inK, lenR] at *; omega) | (simp; done) | fail)) (Nx.mk ?_); conv => whnf) | (refine mkNat (by omega) (by omega) (Nx.mk ?_); conv => whnf) | (refine ar64 (by omega) (Nx.mk ?_); conv => whnf) | (refine ar_in (by (first | exact trivial | assumption | omega | (simp only [inK, lenR] at *; omega) | (simp; done) | fail)) (Nx.mk ?_); conv => whnf) | (refine nilQ (fun _ => Nx.mk ?_) (Nx.mk ?_) <;> conv => whnf) | (refine condN Try.underlying4 (Nx.mk ?_); conv => whnf) | (refine condN (by (first | exact trivial | assumption | omega | (simp only [inK, lenR] at *; omega) | (simp; done) | fail)) (Nx.mk ?_); conv => whnf) | (refine Nx.mk ?_; conv => whnf))
            all_goals first
              | (have e9 := fwd_add (g := g) (f := f) (a := a) (m := (sr (mfC g f) (s, -1) k)) (j := j) (by assumption) (by assumption) (fun hc => by rw [hseen] at hc; cases hc)
                 refine ⟨j + 1, by omega, by omega, ?_⟩
                 ((try conv => whnf); refine ⟨rfl, by rfl, ?_, ?_⟩ <;> ((repeat' ((try conv => whnf); (first | exact trivial | exact Eq.refl _ | exact Or.inl (Eq.refl _) | refine And.intro ?_ ?_ | exact fun _ _ _ _ => Eq.refl _ | refine cellJ (fun _ _ => ?_) | (refine cellB ?_; (conv => whnf); refine And.intro ?_ ?_) | exact Nat.le_of_ble_eq_true (Eq.refl true) | exact ⟨_, _, Eq.refl _, Eq.refl _⟩ | fail))) <;> (try conv => whnf)))
                 · rw [e9]; exact mset_new (fun hc => by rw [hseen] at hc; cases hc)
                 · rw [e9, keys_app])
              | (have e9 := fwd_skip (g := g) (f := f) (a := a) (m := (sr (mfC g f) (s, -1) k)) (j := j) (by first | exact .inl (by assumption) | exact .inr (.inl (by assumption)))
                 refine ⟨j + 1, by omega, by omega, ?_⟩
                 ((try conv => whnf); refine ⟨rfl, by rfl, ?_, ?_⟩ <;> ((repeat' ((try conv => whnf); (first | exact trivial | exact Eq.refl _ | exact Or.inl (Eq.refl _) | refine And.intro ?_ ?_ | exact fun _ _ _ _ => Eq.refl _ | refine cellJ (fun _ _ => ?_) | (refine cellB ?_; (conv => whnf); refine And.intro ?_ ?_) | exact Nat.le_of_ble_eq_true (Eq.refl true) | exact ⟨_, _, Eq.refl _, Eq.refl _⟩ | fail))) <;> (try conv => whnf)))
                 · exact e9.symm
                 · rw [e9])
          · have e : j = g.2.1.length := by omega
            subst e
            refine loopI tysOk [nm 33] (fun j : Nat => [(89, .I j), (10, .os (rt (nm 33)))]) (fun j => [(nm 29, some (.mp 150 (.ints .i64 (addAll (addAll (sr (mfC g f) (s, -1) k) (fwdL g f (idxs (fromB a) g.2.1 g.2.1.length))) (bwdL g f (idxs (toB a) g.2.1 j)))))), (nm 33, some (.row 3 (.ints .i64 (keys (addAll (addAll (sr (mfC g f) (s, -1) k) (fwdL g f (idxs (fromB a) g.2.1 g.2.1.length))) (bwdL g f (idxs (toB a) g.2.1 j)))))))]) (fun j => j ≤ g.2.1.length) (fun j => g.2.1.length - j) 0 (Nat.zero_le _) ?_ ?_
            · ((try conv => whnf); refine ⟨rfl, by rfl, ?_, ?_⟩ <;> ((repeat' ((try conv => whnf); (first | exact trivial | exact Eq.refl _ | exact Or.inl (Eq.refl _) | refine And.intro ?_ ?_ | exact fun _ _ _ _ => Eq.refl _ | refine cellJ (fun _ _ => ?_) | (refine cellB ?_; (conv => whnf); refine And.intro ?_ ?_) | exact Nat.le_of_ble_eq_true (Eq.refl true) | exact ⟨_, _, Eq.refl _, Eq.refl _⟩ | fail))) <;> (try conv => whnf)))
              · rw [bwd_zero, addAll_nil]
              · rw [bwd_zero, addAll_nil]
            · intro j hj
              have hx1 := addAll_ext (l := fwdL g f (idxs (fromB a) g.2.1 g.2.1.length)) hk'
              have hI2 := addAll_inv (l := bwdL g f (idxs (toB a) g.2.1 j)) hI1 (Nat.lt_of_lt_of_le hk' hx1.1) (by rw [hx1.2]; exact ha.symm) (fun p hp => ⟨bwd_in hj p hp, mfC_rng hq.v _ p (bwd_in hj p hp)⟩)
              have hL2 := hI2.len
              have hkl2 := keys_len (addAll (addAll (sr (mfC g f) (s, -1) k) (fwdL g f (idxs (fromB a) g.2.1 g.2.1.length))) (bwdL g f (idxs (toB a) g.2.1 j)))
              (repeat' first | (refine splitD (fun hs => Nx.mk ?_) (fun hs => Nx.mk ?_) <;> ((try simp only [Ct.len] at hs); revert hs; intro _; conv => whnf)) | (refine splitB (fun _ => Nx.mk ?_) (fun _ => Nx.mk ?_) <;> conv => whnf) | (refine idxNat (by (first | exact trivial | assumption | omega | (simp only [inK, lenR] at *; omega) | (simp; done) | fail)) (Nx.mk ?_); conv => whnf) | (refine idxPred (by omega) (by (first | exact trivial | assumption | omega | (simp only [inK, lenR] at *; omega) | (simp; done) | fail)) (Nx.mk ?_); conv => whnf) | (refine idxSucc (by (first | exact trivial | assumption | omega | (simp only [inK, lenR] at *; omega) | (simp; done) | fail)) (Nx.mk ?_); conv => whnf) | (refine idxTo (by omega) (by (first | exact trivial | assumption | omega | (simp only [inK, lenR] at *; omega) | (simp; done) | fail)) (Nx.mk ?_); conv => whnf) | (refine mkNat (by omega) (by omega) (Nx.mk ?_); conv => whnf) | (refine ar64 (by omega) (Nx.mk ?_); conv => whnf) | (refine ar_in (by (first | exact trivial | assumption | omega | (simp only [inK, lenR] at *; omega) | (simp; done) | fail)) (Nx.mk ?_); conv => whnf) | (refine nilQ (fun _ => Nx.mk ?_) (Nx.mk ?_) <;> conv => whnf) | (refine condN Try.underlying4 (Nx.mk ?_); conv => whnf) | (refine condN (by (first | exact trivial | assumption | omega | (simp only [inK, lenR] at *; omega) | (simp; done) | fail)) (Nx.mk ?_); conv => whnf) | (refine Nx.mk ?_; conv => whnf))
              all_goals first
                | (have e9 := bwd_add (g := g) (f := f) (a := a) (m := (addAll (sr (mfC g f) (s, -1) k) (fwdL g f (idxs (fromB a) g.2.1 g.2.1.length)))) (j := j) (by assumption) (by assumption) (ntb (by assumption))
                   refine ⟨j + 1, by omega, by omega, ?_⟩
                   ((try conv => whnf); refine ⟨rfl, by rfl, ?_, ?_⟩ <;> ((repeat' ((try conv => whnf); (first | exact trivial | exact Eq.refl _ | exact Or.inl (Eq.refl _) | refine And.intro ?_ ?_ | exact fun _ _ _ _ => Eq.refl _ | refine cellJ (fun _ _ => ?_) | (refine cellB ?_; (conv => whnf); refine And.intro ?_ ?_) | exact Nat.le_of_ble_eq_true (Eq.refl true) | exact ⟨_, _, Eq.refl _, Eq.refl _⟩ | fail))) <;> (try conv => whnf)))
                   · rw [e9]; exact mset_new (ntb (by assumption))
                   · rw [e9, keys_app])
                | (have e9 := bwd_skip (g := g) (f := f) (a := a) (m := (addAll (sr (mfC g f) (s, -1) k) (fwdL g f (idxs (fromB a) g.2.1 g.2.1.length)))) (j := j) (by first | exact .inl (by assumption) | exact .inr (.inl (by assumption)) | exact .inr (.inr (by assumption)))
                   refine ⟨j + 1, by omega, by omega, ?_⟩
                   ((try conv => whnf); refine ⟨rfl, by rfl, ?_, ?_⟩ <;> ((repeat' ((try conv => whnf); (first | exact trivial | exact Eq.refl _ | exact Or.inl (Eq.refl _) | refine And.intro ?_ ?_ | exact fun _ _ _ _ => Eq.refl _ | refine cellJ (fun _ _ => ?_) | (refine cellB ?_; (conv => whnf); refine And.intro ?_ ?_) | exact Nat.le_of_ble_eq_true (Eq.refl true) | exact ⟨_, _, Eq.refl _, Eq.refl _⟩ | fail))) <;> (try conv => whnf)))
                   · exact e9.symm
                   · rw [e9])
                | skip
              have e : j = g.2.1.length := by omega
              subst e
              have e9 : sr (mfC g f) (s, -1) (k + 1) = addAll (addAll (sr (mfC g f) (s, -1) k) (fwdL g f (idxs (fromB a) g.2.1 g.2.1.length))) (bwdL g f (idxs (toB a) g.2.1 g.2.1.length)) := by
                rw [sr_succ hk', ← ha]
                exact addAll_cat _ _ _
              have hx2 := addAll_ext (l := bwdL g f (idxs (toB a) g.2.1 g.2.1.length)) (Nat.lt_of_lt_of_le hk' hx1.1)
              refine ⟨k + 1, by rw [e9]; omega, by omega, ?_⟩
              ((try conv => whnf); refine ⟨rfl, by rfl, ?_, ?_⟩ <;> ((repeat' ((try conv => whnf); (first | exact trivial | exact Eq.refl _ | exact Or.inl (Eq.refl _) | refine And.intro ?_ ?_ | exact fun _ _ _ _ => Eq.refl _ | refine cellJ (fun _ _ => ?_) | (refine cellB ?_; (conv => whnf); refine And.intro ?_ ?_) | exact Nat.le_of_ble_eq_true (Eq.refl true) | exact ⟨_, _, Eq.refl _, Eq.refl _⟩ | fail))) <;> (try conv => whnf)))
              · exact e9.symm
              · rw [e9]
      · -- all is found, and t is among it
        have hk2 : (sr (mfC g f) (s, -1) k).length ≤ k := by omega
        have hM : sr (mfC g f) (s, -1) k = mfM g f s := (srM_eq ⟨hs0, hs1⟩ (mfC_rng hq.v) hg2 hk2).trans mfM_eq.symm
        rw [hM]
        rename_i hend hgot
        rw [hM] at hgot
        have hIM := mfM_inv (f := f) hq.v hs0 hs1
        obtain ⟨i0, hi0, et⟩ := has_at hgot
        have hLM := hIM.len
        refine loopI tysOk [] (fun i : Nat × List Int => [(23, .I ((mfM g f s).getD i.1 default).1)]) (fun i => [(nm 28, some (.row 3 (.ints .i64 i.2)))]) (fun i => Half g f s t (mfM g f s) i.1 i.2 ∧ ∃ n', i.1 ≤ n' ∧ aug g (mfM g f s) s 8 t f = aug g (mfM g f s) s n' ((mfM g f s).getD i.1 default).1 i.2) (fun i => i.1) (i0, f) ⟨half_start hok hi0 et, 8, by omega, by rw [et]⟩ ?_ ?_
        · ((try conv => whnf); refine ⟨rfl, by rfl, ?_, ?_⟩ <;> ((repeat' ((try conv => whnf); (first | exact trivial | exact Eq.refl _ | exact Or.inl (Eq.refl _) | refine And.intro ?_ ?_ | exact fun _ _ _ _ => Eq.refl _ | refine cellJ (fun _ _ => ?_) | (refine cellB ?_; (conv => whnf); refine And.intro ?_ ?_) | exact Nat.le_of_ble_eq_true (Eq.refl true) | exact ⟨_, _, Eq.refl _, Eq.refl _⟩ | fail))) <;> (try conv => whnf)))
          exact et.symm
        · rintro ⟨i, f'⟩ ⟨hH, n', hn', he⟩
          simp only at hH hn' he
          have hfl' := hH.ok.len
          dsimp only
          (repeat' first | (refine splitD (fun hs => Nx.mk ?_) (fun hs => Nx.mk ?_) <;> ((try simp only [Ct.len] at hs); revert hs; intro _; conv => whnf)) | (refine splitB (fun _ => Nx.mk ?_) (fun _ => Nx.mk ?_) <;> conv => whnf) | (refine idxNat (by (first | exact trivial | assumption | omega | (simp only [inK, lenR] at *; omega) | (simp; done) | fail)) (Nx.mk ?_); conv => whnf) | (refine idxPred (by omega) (by (first | exact trivial | assumption | omega | (simp only [inK, lenR] at *; omega) | (simp; done) | fail)) (Nx.mk ?_); conv => whnf) | (refine idxSucc (by (first | exact trivial | assumption | omega | (simp only [inK, lenR] at *; omega) | (simp; done) | fail)) (Nx.mk ?_); conv => whnf) | (refine idxTo (by omega) (by (first | exact trivial | assumption | omega | (simp only [inK, lenR] at *; omega) | (simp; done) | fail)) (Nx.mk ?_); conv => whnf) | (refine mkNat (by omega) (by omega) (Nx.mk ?_); conv => whnf) | (refine ar64 (by omega) (Nx.mk ?_); conv => whnf) | (refine ar_in (by (first | exact trivial | assumption | omega | (simp only [inK, lenR] at *; omega) | (simp; done) | fail)) (Nx.mk ?_); conv => whnf) | (refine nilQ (fun _ => Nx.mk ?_) (Nx.mk ?_) <;> conv => whnf) | (refine condN Try.underlying4 (Nx.mk ?_); conv => whnf) | (refine condN (by (first | exact trivial | assumption | omega | (simp only [inK, lenR] at *; omega) | (simp; done) | fail)) (Nx.mk ?_); conv => whnf) | (refine Nx.mk ?_; conv => whnf))
          · rename_i hne
            obtain ⟨j, hj, hj1, hj2, hb1, hb2⟩ := half_step hq.v hIM hfl hH hne
            have hr : 0 ≤ f'.getD (mgetI (mfM g f s) ((mfM g f s).getD i default).1).toNat 0 ∧ f'.getD (mgetI (mfM g f s) ((mfM g f s).getD i default).1).toNat 0 ≤ (g.2.1.getD (mgetI (mfM g f s) ((mfM g f s).getD i default).1).toNat default).2.2.1 := hH.ok.rng (mgetI (mfM g f s) ((mfM g f s).getD i default).1).toNat (by omega)
            have hc := cap_in hq.v (i := (mgetI (mfM g f s) ((mfM g f s).getD i default).1).toNat) (by omega)
            obtain ⟨n1, rfl⟩ : ∃ n1, n' = n1 + 1 := ⟨n' - 1, by omega⟩
            rw [aug_step hne, hj1] at he
            (repeat' first | (refine splitD (fun hs => Nx.mk ?_) (fun hs => Nx.mk ?_) <;> ((try simp only [Ct.len] at hs); revert hs; intro _; conv => whnf)) | (refine splitB (fun _ => Nx.mk ?_) (fun _ => Nx.mk ?_) <;> conv => whnf) | (refine idxNat (by (first | exact trivial | assumption | omega | (simp only [inK, lenR] at *; omega) | (simp; done) | fail)) (Nx.mk ?_); conv => whnf) | (refine idxPred (by omega) (by (first | exact trivial | assumption | omega | (simp only [inK, lenR] at *; omega) | (simp; done) | fail)) (Nx.mk ?_); conv => whnf) | (refine idxSucc (by (first | exact trivial | assumption | omega | (simp only [inK, lenR] at *; omega) | (simp; done) | fail)) (Nx.mk ?_); conv => whnf) | (refine idxTo (by omega) (by (first | exact trivial | assumption | omega | (simp only [inK, lenR] at *; omega) | (simp; done) | fail)) (Nx.mk ?_); conv => whnf) | (refine mkNat (by omega) (by omega) (Nx.mk ?_); conv => whnf) | (refine ar64 (by omega) (Nx.mk ?_); conv => whnf) | (refine ar_in (by (first | exact trivial | assumption | omega | (simp only [inK, lenR] at *; omega) | (simp; done) | fail)) (Nx.mk ?_); conv => whnf) | (refine nilQ (fun _ => Nx.mk ?_) (Nx.mk ?_) <;> conv => whnf) | (refine condN Try.underlying4 (Nx.mk ?_); conv => whnf) | (refine condN (by (first | exact trivial | assumption | omega | (simp only [inK, lenR] at *; omega) | (simp; done) | fail)) (Nx.mk ?_); conv => whnf) | (refine Nx.mk ?_; conv => whnf))
            · rename_i h9
              rw [augS_pos h9] at he hj1 hj2
              refine ⟨(j, _), ⟨hj2, n1, by simp only; omega, he⟩, hj, ?_⟩
              ((try conv => whnf); refine ⟨rfl, by rfl, ?_, ?_⟩ <;> ((repeat' ((try conv => whnf); (first | exact trivial | exact Eq.refl _ | exact Or.inl (Eq.refl _) | refine And.intro ?_ ?_ | exact fun _ _ _ _ => Eq.refl _ | refine cellJ (fun _ _ => ?_) | (refine cellB ?_; (conv => whnf); refine And.intro ?_ ?_) | exact Nat.le_of_ble_eq_true (Eq.refl true) | exact ⟨_, _, Eq.refl _, Eq.refl _⟩ | fail))) <;> (try conv => whnf)))
              exact hj1
            · rename_i h9
              rw [augS_neg h9] at he hj1 hj2
              refine ⟨(j, _), ⟨hj2, n1, by simp only; omega, he⟩, hj, ?_⟩
              ((try conv => whnf); refine ⟨rfl, by rfl, ?_, ?_⟩ <;> ((repeat' ((try conv => whnf); (first | exact trivial | exact Eq.refl _ | exact Or.inl (Eq.refl _) | refine And.intro ?_ ?_ | exact fun _ _ _ _ => Eq.refl _ | refine cellJ (fun _ _ => ?_) | (refine cellB ?_; (conv => whnf); refine And.intro ?_ ?_) | exact Nat.le_of_ble_eq_true (Eq.refl true) | exact ⟨_, _, Eq.refl _, Eq.refl _⟩ | fail))) <;> (try conv => whnf)))
              exact hj1
          · rename_i hs
            have hs' : ((mfM g f s).getD i default).1 = s := Classical.not_not.1 hs
            obtain ⟨n1, rfl⟩ : ∃ n1, n = n1 + 1 := ⟨n - 1, by omega⟩
            have hnet := hH.net s
            rw [if_pos hs', if_neg (Ne.symm hq.ne)] at hnet
            refine ⟨(n1, f'), ⟨?_, hH.ok, by simp only; omega⟩, by simp only; omega, ?_⟩
            · rw [hF, mfRun_next hgot, he, hs', aug_at]
            · ((try conv => whnf); refine ⟨rfl, by rfl, ?_, ?_⟩ <;> ((repeat' ((try conv => whnf); (first | exact trivial | exact Eq.refl _ | exact Or.inl (Eq.refl _) | refine And.intro ?_ ?_ | exact fun _ _ _ _ => Eq.refl _ | refine cellJ (fun _ _ => ?_) | (refine cellB ?_; (conv => whnf); refine And.intro ?_ ?_) | exact Nat.le_of_ble_eq_true (Eq.refl true) | exact ⟨_, _, Eq.refl _, Eq.refl _⟩ | fail))) <;> (try conv => whnf)))
      · have hk2 : (sr (mfC g f) (s, -1) k).length ≤ k := by omega
        have hM : sr (mfC g f) (s, -1) k = mfM g f s := (srM_eq ⟨hs0, hs1⟩ (mfC_rng hq.v) hg2 hk2).trans mfM_eq.symm
        rename_i hend hgot
        rw [hM] at hgot
        obtain ⟨n1, rfl⟩ : ∃ n1, n = n1 + 1 := ⟨n - 1, by omega⟩
        have e : mfF g s t = f := by rw [hF, mfRun_stop hgot]
        rw [e, ← hM]
        refine ⟨[(16, nm 28), (17, nm 33)], rfl, ?_, ?_, ?_, fun _ => ?_⟩
        · ((try conv => whnf); refine ⟨rfl, by rfl, ?_, ?_⟩ <;> ((repeat' ((try conv => whnf); (first | exact trivial | exact Eq.refl _ | exact Or.inl (Eq.refl _) | refine And.intro ?_ ?_ | exact fun _ _ _ _ => Eq.refl _ | refine cellJ (fun _ _ => ?_) | (refine cellB ?_; (conv => whnf); refine And.intro ?_ ?_) | exact Nat.le_of_ble_eq_true (Eq.refl true) | exact ⟨_, _, Eq.refl _, Eq.refl _⟩ | fail))) <;> (try conv => whnf)))
        all_goals ((repeat' ((try conv => whnf); (first | exact trivial | exact Eq.refl _ | exact Or.inl (Eq.refl _) | refine And.intro ?_ ?_ | exact fun _ _ _ _ => Eq.refl _ | refine cellJ (fun _ _ => ?_) | (refine cellB ?_; (conv => whnf); refine And.intro ?_ ?_) | exact Nat.le_of_ble_eq_true (Eq.refl true) | exact ⟨_, _, Eq.refl _, Eq.refl _⟩ | fail))) <;> (try conv => whnf))
end Go.Proofs.Ytmnbpamaiboghaa
