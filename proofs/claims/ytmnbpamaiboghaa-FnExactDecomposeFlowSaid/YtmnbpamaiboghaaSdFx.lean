/-
  Search in breadth, of the reference; ShortestPath of both.
-/
import Derived.Test.YtmnbpamaiboghaaSdFw
import Derived.Test.YtmnbpamaiboghaaVC
namespace Go.Proofs.Ytmnbpamaiboghaa
set_option linter.unusedVariables false
set_option linter.unusedSimpArgs false
set_option maxRecDepth 100000
set_option maxHeartbeats 4000000
attribute [local irreducible] Fn
theorem take_snoc {l : List Int} {i : Nat} (h : i < l.length) : l.take (i + 1) = l.take i ++ [l.getD i 0] := by
  rw [List.take_add_one, List.getElem?_eq_getElem h, List.getD_eq_getElem?_getD, List.getElem?_eq_getElem h]; rfl
theorem take_all {l : List Int} : l.take l.length = l := List.take_length
def usAll : Nat → Bool := fun _ => true
theorem bfsT_add {g : Gr} {a : Int} {l : List Int} {m : Pairs} {i : Nat} (h : i < l.length) (h3 : ¬ mhas (addAll m (bfsL g usAll a (l.take i))) (eAt g (l.getD i 0).toNat).2.1 = true) :
    addAll m (bfsL g usAll a (l.take (i + 1))) = addAll m (bfsL g usAll a (l.take i)) ++ [((eAt g (l.getD i 0).toNat).2.1, a)] := by
  have e2 : bfsL g usAll a (l.take (i + 1)) = bfsL g usAll a (l.take i) ++ [((eAt g (l.getD i 0).toNat).2.1, a)] := by
    rw [take_snoc h]; unfold bfsL; rw [List.flatMap_append]
    simp [usAll]
  rw [e2, addAll_app, addC_new h3]
theorem bfsT_skip {g : Gr} {a : Int} {l : List Int} {m : Pairs} {i : Nat} (h : i < l.length) (h3 : mhas (addAll m (bfsL g usAll a (l.take i))) (eAt g (l.getD i 0).toNat).2.1 = true) :
    addAll m (bfsL g usAll a (l.take (i + 1))) = addAll m (bfsL g usAll a (l.take i)) := by
  have e2 : bfsL g usAll a (l.take (i + 1)) = bfsL g usAll a (l.take i) ++ [((eAt g (l.getD i 0).toNat).2.1, a)] := by
    rw [take_snoc h]; unfold bfsL; rw [List.flatMap_append]
    simp [usAll]
  rw [e2, addAll_app, addC_old h3]
theorem eFrom_le {g : Gr} {a : Int} : (eFrom g a).length ≤ g.2.1.length := idxs_len
theorem bfsT_zero {g : Gr} {a : Int} {l : List Int} : bfsL g usAll a (l.take 0) = [] := rfl
theorem bfsT_in {g : Gr} {a : Int} {i : Nat} : ∀ p ∈ bfsL g usAll a ((eFrom g a).take i), p ∈ bfsC g usAll a := by
  intro p hp
  obtain ⟨x, h1, h2⟩ := List.mem_flatMap.1 hp
  exact List.mem_flatMap.2 ⟨x, List.mem_of_mem_take h1, h2⟩
theorem bfsC_eF {g : Gr} {us : Nat → Bool} {a : Int} : bfsC g us a = bfsL g us a (eFrom g a) := rfl
/-- A list of n integers. -/
def tabM (n : Nat) (φ : Int → Int) : List Int := (List.range n).map fun v : Nat => φ v
theorem tabM_len (n : Nat) (φ : Int → Int) : (tabM n φ).length = n := by simp [tabM]
theorem tabM_getD {n v : Nat} {φ : Int → Int} (h : v < n) : (tabM n φ).getD v 0 = φ v := by simp [tabM, List.getD_eq_getElem?_getD, h]
theorem tabM_ext {n : Nat} {φ ψ : Int → Int} (h : ∀ v : Nat, v < n → φ v = ψ v) : tabM n φ = tabM n ψ := by
  refine ext_getD (z := 0) (by simp [tabM_len]) (fun v hv => ?_)
  rw [tabM_len] at hv
  rw [tabM_getD hv, tabM_getD hv, h v hv]
theorem tabM_set {n : Nat} {φ : Int → Int} {b x : Int} (h0 : 0 ≤ b) (h1 : b < n) : (tabM n φ).set b.toNat x = tabM n (fun v => if v = b then x else φ v) := by
  refine ext_getD (z := 0) (by simp [tabM_len]) (fun v hv => ?_)
  have hv : v < n := by simpa [tabM_len] using hv
  rw [tabM_getD hv]
  by_cases e : b.toNat = v
  · subst e
    rw [getD_set_eq (by rw [tabM_len]; exact hv), if_pos (by omega)]
  · rw [getD_set_ne e, tabM_getD hv, if_neg (by omega)]
theorem tabM_rep {n : Nat} {x : Int} : List.replicate n x = tabM n (fun _ => x) := by
  refine ext_getD (z := 0) (by simp [tabM_len]) (fun v hv => ?_)
  have hv : v < n := by simpa using hv
  rw [tabM_getD hv]
  simp [List.getD_eq_getElem?_getD, hv]
theorem SrI.root {C : Int → Pairs} {r : Int × Int} {n : Int} {m : Pairs} (h : SrI C r n m) : mhas m r.1 = true := by
  rw [mhas_iff]
  have := getD_mem h.pos
  rw [h.hd] at this
  exact List.mem_map.2 ⟨_, this, rfl⟩
theorem nots {m : Pairs} {b s : Int} (h1 : mhas m b = false) (h2 : mhas m s = true) : b ≠ s := fun e => by rw [e, h2] at h1; cases h1
theorem mgetI_app {m : Pairs} {x b v : Int} (h : ¬ mhas m b = true) : mgetI (m ++ [(b, v)]) x = if x = b then v else mgetI m x := by
  unfold mgetI
  rw [mfind_app h]
  split <;> rfl
theorem mhas_app {m : Pairs} {x b v : Int} : mhas (m ++ [(b, v)]) x = true ↔ (mhas m x = true ∨ x = b) := by
  rw [mhas_iff, mhas_iff]; simp
/-- The node before each node, as the reference writes it. -/
def prevT (g : Gr) (s : Int) (m : Pairs) : List Int := tabM g.1.toNat fun v => if v ≠ s ∧ mhas m v = true then mgetI m v else 0
theorem prevT_len (g : Gr) (s : Int) (m : Pairs) : (prevT g s m).length = g.1.toNat := tabM_len _ _
theorem prevT_at {g : Gr} {s a : Int} {m : Pairs} (h0 : 0 ≤ a) (h1 : a < g.1) (hs : a ≠ s) (hm : mhas m a = true) : (prevT g s m).getD a.toNat 0 = mgetI m a := by
  unfold prevT
  rw [tabM_getD (by omega)]
  have e : ((a.toNat : Nat) : Int) = a := by omega
  rw [e, if_pos ⟨hs, hm⟩]
theorem prevT_add {g : Gr} {s b a : Int} {m : Pairs} (hb0 : 0 ≤ b) (hb1 : b < g.1) (hbs : b ≠ s) (h : ¬ mhas m b = true) : (prevT g s m).set b.toNat a = prevT g s (m ++ [(b, a)]) := by
  unfold prevT
  rw [tabM_set hb0 (by omega)]
  refine tabM_ext (fun v hv => ?_)
  rw [mgetI_app h]
  by_cases e : (v : Int) = b
  · rw [if_pos e, if_pos ⟨by omega, mhas_app.2 (.inr e)⟩, if_pos e]
  · rw [if_neg e, if_neg e]
    by_cases hc : (v : Int) ≠ s ∧ mhas m v = true
    · rw [if_pos hc, if_pos (c := (v : Int) ≠ s ∧ mhas (m ++ [(b, a)]) v = true) ⟨hc.1, mhas_app.2 (.inl hc.2)⟩]
    · rw [if_neg hc, if_neg (c := (v : Int) ≠ s ∧ mhas (m ++ [(b, a)]) v = true) (fun h2 => hc ⟨h2.1, (mhas_app.1 h2.2).resolve_right e⟩)]
theorem prevT_zero {g : Gr} {s : Int} : prevT g s [(s, s)] = List.replicate g.1.toNat 0 := by
  rw [tabM_rep]
  refine tabM_ext (fun v hv => ?_)
  exact if_neg (fun h => h.1 (by have h2 := mhas_iff.1 h.2; simpa using h2))
theorem hasK {m : Pairs} {x : Int} : hasI (keys m) x = mhas m x := by
  rw [Bool.eq_iff_iff, mhas_iff]
  unfold hasI keys
  rw [List.any_eq_true]
  constructor
  · rintro ⟨y, hy, e⟩; rw [← of_decide_eq_true e]; exact hy
  · intro h; exact ⟨x, h, decide_eq_true rfl⟩
theorem has_mem {m : Pairs} {i : Nat} (h : i < m.length) : mhas m (m.getD i default).1 = true := by
  rw [mhas_iff]
  exact List.mem_map.2 ⟨_, getD_mem h, rfl⟩
theorem hasK' {m : Pairs} {x : Int} (h : mhas m x = true) : x ∈ keys m := mhas_iff.1 h
/-- Both nodes lie in a graph that is valid. -/
structure Pair (g : Gr) (s t : Int) : Prop where
  v : ValidG g
  s0 : 0 ≤ s
  s1 : s < g.1
  t0 : 0 ≤ t
  t1 : t < g.1
open Classical in
/-- The path that is found, or none. -/
noncomputable def shp (g : Gr) (s t : Int) : List Int := if Pair g s t then spF g usAll s t else []
open Classical in
noncomputable def shpB (g : Gr) (s t : Int) : Bool := if Pair g s t then mhas (bfsM g usAll s) t else false
theorem shp_no {g : Gr} {s t : Int} (h : ¬ Pair g s t) : shp g s t = [] := if_neg h
theorem shpB_no {g : Gr} {s t : Int} (h : ¬ Pair g s t) : shpB g s t = false := if_neg h
theorem shp_yes {g : Gr} {s t : Int} (h : Pair g s t) : shp g s t = spF g usAll s t := if_pos h
theorem shpB_yes {g : Gr} {s t : Int} (h : Pair g s t) : shpB g s t = mhas (bfsM g usAll s) t := if_pos h
attribute [local irreducible] addAll bfsL idxs sr mset mhas mgetI keys bfsM chain spF prevT eFrom hasI shp shpB
theorem sSp_fn (g : Gr) (s t : Int) (h : g.2.1.length ≤ 1048576) : Fn Try.prog 40 true (.cons (GrA g) (.cons (.I s) (.cons (.I t) .nil))) [] (.tup (.cons (.agg (.cons (.os (rt 16)) .nil)) (.cons (.b (shpB g s t)) .nil))) [(16, .row 3 (.ints .i64 (shp g s t)))] := by
  (refine Fn_of tysOk Try.func40 rfl rfl (by simp [AV.len, Try.f40]) ⟨?_⟩; conv => whnf)
  by_cases hp : Pair g s t
  · have hv := hp.v
    have hs0 := hp.s0
    have hs1 := hp.s1
    have ht0 := hp.t0
    have ht1 := hp.t1
    have hlen := hv.len
    have hg1 := hv.lo
    have hg2 := hv.hi
    have hsp := shp_yes hp
    have hspB := shpB_yes hp
    have hw : IntKind.wrap .i64 (g.1 - 1) = g.1 - 1 := topN_eq hg1 hg2
    have cv := (sValid_fn g h).tt (validG_iff.2 hv)
    (repeat' first | ((with_reducible show ∃ _ : Bool, _); first | (refine ⟨_, [], _, [], _, _, cv, rfl, trivial, ?_, Nx.mk ?_⟩; (focus (((repeat' ((try conv => whnf); (first | exact trivial | exact Eq.refl _ | exact Or.inl (Eq.refl _) | refine And.intro ?_ ?_ | exact fun _ _ _ _ => Eq.refl _ | refine cellJ (fun _ _ => ?_) | (refine cellB ?_; (conv => whnf); refine And.intro ?_ ?_) | exact Nat.le_of_ble_eq_true (Eq.refl true) | exact ⟨_, _, Eq.refl _, Eq.refl _⟩ | fail))) <;> (try conv => whnf)); done)); conv => whnf) | (refine ⟨_, [], _, [], _, _, l1In_fn _ _ _, rfl, trivial, (by ((repeat' ((try conv => whnf); (first | exact trivial | exact Eq.refl _ | exact Or.inl (Eq.refl _) | refine And.intro ?_ ?_ | exact fun _ _ _ _ => Eq.refl _ | refine cellJ (fun _ _ => ?_) | (refine cellB ?_; (conv => whnf); refine And.intro ?_ ?_) | exact Nat.le_of_ble_eq_true (Eq.refl true) | exact ⟨_, _, Eq.refl _, Eq.refl _⟩ | fail))) <;> (try conv => whnf))), Nx.mk ?_⟩; conv => whnf))  | (refine splitD (fun hs => Nx.mk ?_) (fun hs => Nx.mk ?_) <;> ((try simp only [Ct.len] at hs); revert hs; intro _; conv => whnf)) | (refine splitB (fun _ => Nx.mk ?_) (fun _ => Nx.mk ?_) <;> conv => whnf) | (refine idxNat (by (first | exact trivial | assumption | omega | (simp only [inK, lenR] at *; omega) | (simp; done) | fail)) (Nx.mk ?_); conv => whnf) | (refine idxPred (by omega) (by (first | exact trivial | assumption | omega | (simp only [inK, lenR] at *; omega) | (simp; done) | fail)) (Nx.mk ?_); conv => whnf) | (refine idxSucc (by (first | exact trivial | assumption | omega | (simp only [inK, lenR] at *; omega) | (simp; done) | fail)) (Nx.mk ?_); conv => whnf) | (refine idxTo (by omega) (by (first | exact trivial | assumption | omega | (simp only [inK, lenR] at *; omega) | (simp; done) | fail)) (Nx.mk ?_); conv => whnf) | (refine mkNat (by omega) (by omega) (Nx.mk ?_); conv => whnf) | (refine ar64 (by omega) (Nx.mk ?_); conv => whnf) | (refine ar_in (by (first | exact trivial | assumption | omega | (simp only [inK, lenR] at *; omega) | (simp; done) | fail)) (Nx.mk ?_); conv => whnf) | (refine nilQ (fun _ => Nx.mk ?_) (Nx.mk ?_) <;> conv => whnf) | (refine condN Try.underlying4 (Nx.mk ?_); conv => whnf) | (refine condN (by (first | exact trivial | assumption | omega | (simp only [inK, lenR] at *; omega) | (simp; done) | fail)) (Nx.mk ?_); conv => whnf) | (refine Nx.mk ?_; conv => whnf))
    (all_goals try first | contradiction | (exfalso; omega))
    refine ⟨g.1.toNat, g.1.toNat, by omega, by omega, Nat.le_refl _, by omega, Nx.mk ?_⟩
    conv => whnf
    (repeat' first | (refine splitD (fun hs => Nx.mk ?_) (fun hs => Nx.mk ?_) <;> ((try simp only [Ct.len] at hs); revert hs; intro _; conv => whnf)) | (refine splitB (fun _ => Nx.mk ?_) (fun _ => Nx.mk ?_) <;> conv => whnf) | (refine idxNat (by (first | exact trivial | assumption | omega | (simp only [inK, lenR] at *; omega) | (simp; done) | fail)) (Nx.mk ?_); conv => whnf) | (refine idxPred (by omega) (by (first | exact trivial | assumption | omega | (simp only [inK, lenR] at *; omega) | (simp; done) | fail)) (Nx.mk ?_); conv => whnf) | (refine idxSucc (by (first | exact trivial | assumption | omega | (simp only [inK, lenR] at *; omega) | (simp; done) | fail)) (Nx.mk ?_); conv => whnf) | (refine idxTo (by omega) (by (first | exact trivial | assumption | omega | (simp only [inK, lenR] at *; omega) | (simp; done) | fail)) (Nx.mk ?_); conv => whnf) | (refine mkNat (by omega) (by omega) (Nx.mk ?_); conv => whnf) | (refine ar64 (by omega) (Nx.mk ?_); conv => whnf) | (refine ar_in (by (first | exact trivial | assumption | omega | (simp only [inK, lenR] at *; omega) | (simp; done) | fail)) (Nx.mk ?_); conv => whnf) | (refine nilQ (fun _ => Nx.mk ?_) (Nx.mk ?_) <;> conv => whnf) | (refine condN Try.underlying4 (Nx.mk ?_); conv => whnf) | (refine condN (by (first | exact trivial | assumption | omega | (simp only [inK, lenR] at *; omega) | (simp; done) | fail)) (Nx.mk ?_); conv => whnf) | (refine Nx.mk ?_; conv => whnf))
    refine loopI tysOk [nm 40] (fun k : Nat => [(10, .I k), (9, .os (rt (nm 40)))]) (fun k => [(nm 40, some (.row 3 (.ints .i64 (keys (sr (bfsC g usAll) (s, s) k))))), (nm 38, some (.row 3 (.ints .i64 (prevT g s (sr (bfsC g usAll) (s, s) k)))))]) (fun k => k ≤ (sr (bfsC g usAll) (s, s) k).length) (fun k => 8 - k) 0 (Nat.zero_le _) ?_ ?_
    · ((try conv => whnf); refine ⟨rfl, by rfl, ?_, ?_⟩ <;> ((repeat' ((try conv => whnf); (first | exact trivial | exact Eq.refl _ | exact Or.inl (Eq.refl _) | refine And.intro ?_ ?_ | exact fun _ _ _ _ => Eq.refl _ | refine cellJ (fun _ _ => ?_) | (refine cellB ?_; (conv => whnf); refine And.intro ?_ ?_) | exact Nat.le_of_ble_eq_true (Eq.refl true) | exact ⟨_, _, Eq.refl _, Eq.refl _⟩ | fail))) <;> (try conv => whnf)))
      · rw [sr_zero, keys_one]
      · rw [sr_zero, prevT_zero]
    · intro k hk
      have hI := sr_inv (C := bfsC g usAll) (r := (s, s)) ⟨hs0, hs1⟩ (bfsC_rng hv) (k := k)
      have hL := hI.len
      have hkl := keys_len (sr (bfsC g usAll) (s, s) k)
      (repeat' first | (refine splitD (fun hs => Nx.mk ?_) (fun hs => Nx.mk ?_) <;> ((try simp only [Ct.len] at hs); revert hs; intro _; conv => whnf)) | (refine splitB (fun _ => Nx.mk ?_) (fun _ => Nx.mk ?_) <;> conv => whnf) | (refine idxNat (by (first | exact trivial | assumption | omega | (simp only [inK, lenR] at *; omega) | (simp; done) | fail)) (Nx.mk ?_); conv => whnf) | (refine idxPred (by omega) (by (first | exact trivial | assumption | omega | (simp only [inK, lenR] at *; omega) | (simp; done) | fail)) (Nx.mk ?_); conv => whnf) | (refine idxSucc (by (first | exact trivial | assumption | omega | (simp only [inK, lenR] at *; omega) | (simp; done) | fail)) (Nx.mk ?_); conv => whnf) | (refine idxTo (by omega) (by (first | exact trivial | assumption | omega | (simp only [inK, lenR] at *; omega) | (simp; done) | fail)) (Nx.mk ?_); conv => whnf) | (refine mkNat (by omega) (by omega) (Nx.mk ?_); conv => whnf) | (refine ar64 (by omega) (Nx.mk ?_); conv => whnf) | (refine ar_in (by (first | exact trivial | assumption | omega | (simp only [inK, lenR] at *; omega) | (simp; done) | fail)) (Nx.mk ?_); conv => whnf) | (refine nilQ (fun _ => Nx.mk ?_) (Nx.mk ?_) <;> conv => whnf) | (refine condN Try.underlying4 (Nx.mk ?_); conv => whnf) | (refine condN (by (first | exact trivial | assumption | omega | (simp only [inK, lenR] at *; omega) | (simp; done) | fail)) (Nx.mk ?_); conv => whnf) | (refine Nx.mk ?_; conv => whnf))
      · have hk' : k < (sr (bfsC g usAll) (s, s) k).length := by omega
        have ha : (keys (sr (bfsC g usAll) (s, s) k)).getD k 0 = ((sr (bfsC g usAll) (s, s) k).getD k default).1 := keys_getD hk'
        (refine VC_draw (sf := []) tysOk (by kernel_rfl) (by kernel_rfl) (Nx.mk ?_); conv => whnf)
        (repeat' first | (refine splitD (fun hs => Nx.mk ?_) (fun hs => Nx.mk ?_) <;> ((try simp only [Ct.len] at hs); revert hs; intro _; conv => whnf)) | (refine splitB (fun _ => Nx.mk ?_) (fun _ => Nx.mk ?_) <;> conv => whnf) | (refine idxNat (by (first | exact trivial | assumption | omega | (simp only [inK, lenR] at *; omega) | (simp; done) | fail)) (Nx.mk ?_); conv => whnf) | (refine idxPred (by omega) (by (first | exact trivial | assumption | omega | (simp only [inK, lenR] at *; omega) | (simp; done) | fail)) (Nx.mk ?_); conv => whnf) | (refine idxSucc (by (first | exact trivial | assumption | omega | (simp only [inK, lenR] at *; omega) | (simp; done) | fail)) (Nx.mk ?_); conv => whnf) | (refine idxTo (by omega) (by (first | exact trivial | assumption | omega | (simp only [inK, lenR] at *; omega) | (simp; done) | fail)) (Nx.mk ?_); conv => whnf) | (refine mkNat (by omega) (by omega) (Nx.mk ?_); conv => whnf) | (refine ar64 (by omega) (Nx.mk ?_); conv => whnf) | (refine ar_in (by (first | exact trivial | assumption | omega | (simp only [inK, lenR] at *; omega) | (simp; done) | fail)) (Nx.mk ?_); conv => whnf) | (refine nilQ (fun _ => Nx.mk ?_) (Nx.mk ?_) <;> conv => whnf) | (refine condN Try.underlying4 (Nx.mk ?_); conv => whnf) | (refine condN (by (first | exact trivial | assumption | omega | (simp only [inK, lenR] at *; omega) | (simp; done) | fail)) (Nx.mk ?_); conv => whnf) | (refine Nx.mk ?_; conv => whnf))
        generalize hA : (keys (sr (bfsC g usAll) (s, s) k)).getD k 0 = a at *
        (repeat' first | ((with_reducible show ∃ _ : Bool, _); first | (refine ⟨_, [], _, [], _, _, sFrom_fn g a (by omega), rfl, trivial, ?_, Nx.mk ?_⟩; (focus (((repeat' ((try conv => whnf); (first | exact trivial | exact Eq.refl _ | exact Or.inl (Eq.refl _) | refine And.intro ?_ ?_ | exact fun _ _ _ _ => Eq.refl _ | refine cellJ (fun _ _ => ?_) | (refine cellB ?_; (conv => whnf); refine And.intro ?_ ?_) | exact Nat.le_of_ble_eq_true (Eq.refl true) | exact ⟨_, _, Eq.refl _, Eq.refl _⟩ | fail))) <;> (try conv => whnf)); done)); conv => whnf))  | (refine splitD (fun hs => Nx.mk ?_) (fun hs => Nx.mk ?_) <;> ((try simp only [Ct.len] at hs); revert hs; intro _; conv => whnf)) | (refine splitB (fun _ => Nx.mk ?_) (fun _ => Nx.mk ?_) <;> conv => whnf) | (refine idxNat (by (first | exact trivial | assumption | omega | (simp only [inK, lenR] at *; omega) | (simp; done) | fail)) (Nx.mk ?_); conv => whnf) | (refine idxPred (by omega) (by (first | exact trivial | assumption | omega | (simp only [inK, lenR] at *; omega) | (simp; done) | fail)) (Nx.mk ?_); conv => whnf) | (refine idxSucc (by (first | exact trivial | assumption | omega | (simp only [inK, lenR] at *; omega) | (simp; done) | fail)) (Nx.mk ?_); conv => whnf) | (refine idxTo (by omega) (by (first | exact trivial | assumption | omega | (simp only [inK, lenR] at *; omega) | (simp; done) | fail)) (Nx.mk ?_); conv => whnf) | (refine mkNat (by omega) (by omega) (Nx.mk ?_); conv => whnf) | (refine ar64 (by omega) (Nx.mk ?_); conv => whnf) | (refine ar_in (by (first | exact trivial | assumption | omega | (simp only [inK, lenR] at *; omega) | (simp; done) | fail)) (Nx.mk ?_); conv => whnf) | (refine nilQ (fun _ => Nx.mk ?_) (Nx.mk ?_) <;> conv => whnf) | (refine condN Try.underlying4 (Nx.mk ?_); conv => whnf) | (refine condN (by (first | exact trivial | assumption | omega | (simp only [inK, lenR] at *; omega) | (simp; done) | fail)) (Nx.mk ?_); conv => whnf) | (refine Nx.mk ?_; conv => whnf))
        refine loopI tysOk [nm 40] (fun i : Nat => [(12, .I i), (9, .os (rt (nm 40)))]) (fun i => [(nm 40, some (.row 3 (.ints .i64 (keys (addAll (sr (bfsC g usAll) (s, s) k) (bfsL g usAll a ((eFrom g a).take i))))))), (nm 38, some (.row 3 (.ints .i64 (prevT g s (addAll (sr (bfsC g usAll) (s, s) k) (bfsL g usAll a ((eFrom g a).take i)))))))]) (fun i => i ≤ (eFrom g a).length) (fun i => (eFrom g a).length - i) 0 (Nat.zero_le _) ?_ ?_
        · ((try conv => whnf); refine ⟨rfl, by rfl, ?_, ?_⟩ <;> ((repeat' ((try conv => whnf); (first | exact trivial | exact Eq.refl _ | exact Or.inl (Eq.refl _) | refine And.intro ?_ ?_ | exact fun _ _ _ _ => Eq.refl _ | refine cellJ (fun _ _ => ?_) | (refine cellB ?_; (conv => whnf); refine And.intro ?_ ?_) | exact Nat.le_of_ble_eq_true (Eq.refl true) | exact ⟨_, _, Eq.refl _, Eq.refl _⟩ | fail))) <;> (try conv => whnf)))
          · rw [bfsT_zero, addAll_nil]
          · rw [bfsT_zero, addAll_nil]
        · intro i hi
          have hx1 := addAll_ext (l := bfsL g usAll a ((eFrom g a).take i)) hk'
          have hI1 := addAll_inv (l := bfsL g usAll a ((eFrom g a).take i)) hI hk' ha.symm (fun p hp => ⟨bfsT_in p hp, bfsC_rng hv _ p (bfsT_in p hp)⟩)
          have hL1 := hI1.len
          have hkl1 := keys_len (addAll (sr (bfsC g usAll) (s, s) k) (bfsL g usAll a ((eFrom g a).take i)))
          have hbl1 := prevT_len g s (addAll (sr (bfsC g usAll) (s, s) k) (bfsL g usAll a ((eFrom g a).take i)))
          have hq : (keys (addAll (sr (bfsC g usAll) (s, s) k) (bfsL g usAll a ((eFrom g a).take i)))).getD k 0 = a := by
            rw [keys_getD (by omega), hx1.2]; exact ha.symm
          have hle : (eFrom g a).length ≤ g.2.1.length := eFrom_le
          have hok2 : i < (eFrom g a).length → _ := fun h => eFrom_ok (g := g) (a := a) (k := i) h
          (repeat' first | (refine splitD (fun hs => Nx.mk ?_) (fun hs => Nx.mk ?_) <;> ((try simp only [Ct.len] at hs); revert hs; intro _; conv => whnf)) | (refine splitB (fun _ => Nx.mk ?_) (fun _ => Nx.mk ?_) <;> conv => whnf) | (refine idxNat (by (first | exact trivial | assumption | omega | (simp only [inK, lenR] at *; omega) | (simp; done) | fail)) (Nx.mk ?_); conv => whnf) | (refine idxPred (by omega) (by (first | exact trivial | assumption | omega | (simp only [inK, lenR] at *; omega) | (simp; done) | fail)) (Nx.mk ?_); conv => whnf) | (refine idxSucc (by (first | exact trivial | assumption | omega | (simp only [inK, lenR] at *; omega) | (simp; done) | fail)) (Nx.mk ?_); conv => whnf) | (refine idxTo (by omega) (by (first | exact trivial | assumption | omega | (simp only [inK, lenR] at *; omega) | (simp; done) | fail)) (Nx.mk ?_); conv => whnf) | (refine mkNat (by omega) (by omega) (Nx.mk ?_); conv => whnf) | (refine ar64 (by omega) (Nx.mk ?_); conv => whnf) | (refine ar_in (by (first | exact trivial | assumption | omega | (simp only [inK, lenR] at *; omega) | (simp; done) | fail)) (Nx.mk ?_); conv => whnf) | (refine nilQ (fun _ => Nx.mk ?_) (Nx.mk ?_) <;> conv => whnf) | (refine condN Try.underlying4 (Nx.mk ?_); conv => whnf) | (refine condN (by (first | exact trivial | assumption | omega | (simp only [inK, lenR] at *; omega) | (simp; done) | fail)) (Nx.mk ?_); conv => whnf) | (refine Nx.mk ?_; conv => whnf))
          · have hi' : i < (eFrom g a).length := by omega
            have hx := hok2 hi'
            have he := hv.ends (i := ((eFrom g a).getD i 0).toNat) (by omega)
            have ch := sHas_fn (keys (addAll (sr (bfsC g usAll) (s, s) k) (bfsL g usAll a ((eFrom g a).take i)))) (g.2.1.getD ((eFrom g a).getD i 0).toNat default).2.1 (by omega)
            rw [hasK] at ch
            (refine VC_draw (sf := []) tysOk (by kernel_rfl) (by kernel_rfl) (Nx.mk ?_); conv => whnf)
            (repeat' first | (refine splitD (fun hs => Nx.mk ?_) (fun hs => Nx.mk ?_) <;> ((try simp only [Ct.len] at hs); revert hs; intro _; conv => whnf)) | (refine splitB (fun _ => Nx.mk ?_) (fun _ => Nx.mk ?_) <;> conv => whnf) | (refine idxNat (by (first | exact trivial | assumption | omega | (simp only [inK, lenR] at *; omega) | (simp; done) | fail)) (Nx.mk ?_); conv => whnf) | (refine idxPred (by omega) (by (first | exact trivial | assumption | omega | (simp only [inK, lenR] at *; omega) | (simp; done) | fail)) (Nx.mk ?_); conv => whnf) | (refine idxSucc (by (first | exact trivial | assumption | omega | (simp only [inK, lenR] at *; omega) | (simp; done) | fail)) (Nx.mk ?_); conv => whnf) | (refine idxTo (by omega) (by (first | exact trivial | assumption | omega | (simp only [inK, lenR] at *; omega) | (simp; done) | fail)) (Nx.mk ?_); conv => whnf) | (refine mkNat (by omega) (by omega) (Nx.mk ?_); conv => whnf) | (refine ar64 (by omega) (Nx.mk ?_); conv => whnf) | (refine ar_in (by (first | exact trivial | assumption | omega | (simp only [inK, lenR] at *; omega) | (simp; done) | fail)) (Nx.mk ?_); conv => whnf) | (refine nilQ (fun _ => Nx.mk ?_) (Nx.mk ?_) <;> conv => whnf) | (refine condN Try.underlying4 (Nx.mk ?_); conv => whnf) | (refine condN (by (first | exact trivial | assumption | omega | (simp only [inK, lenR] at *; omega) | (simp; done) | fail)) (Nx.mk ?_); conv => whnf) | (refine Nx.mk ?_; conv => whnf))
            (repeat' first | ((with_reducible show ∃ _ : Bool, _); first | (refine ⟨_, [], _, [], _, _, ch, rfl, trivial, ?_, Nx.mk ?_⟩; (focus (((repeat' ((try conv => whnf); (first | exact trivial | exact Eq.refl _ | exact Or.inl (Eq.refl _) | refine And.intro ?_ ?_ | exact fun _ _ _ _ => Eq.refl _ | refine cellJ (fun _ _ => ?_) | (refine cellB ?_; (conv => whnf); refine And.intro ?_ ?_) | exact Nat.le_of_ble_eq_true (Eq.refl true) | exact ⟨_, _, Eq.refl _, Eq.refl _⟩ | fail))) <;> (try conv => whnf)); done)); conv => whnf))  | (refine splitD (fun hs => Nx.mk ?_) (fun hs => Nx.mk ?_) <;> ((try simp only [Ct.len] at hs); revert hs; intro _; conv => whnf)) | (refine splitB (fun _ => Nx.mk ?_) (fun _ => Nx.mk ?_) <;> conv => whnf) | (refine idxNat (by (first | exact trivial | assumption | omega | (simp only [inK, lenR] at *; omega) | (simp; done) | fail)) (Nx.mk ?_); conv => whnf) | (refine idxPred (by omega) (by (first | exact trivial | assumption | omega | (simp only [inK, lenR] at *; omega) | (simp; done) | fail)) (Nx.mk ?_); conv => whnf) | (refine idxSucc (by (first | exact trivial | assumption | omega | (simp only [inK, lenR] at *; omega) | (simp; done) | fail)) (Nx.mk ?_); conv => whnf) | (refine idxTo (by omega) (by (first | exact trivial | assumption | omega | (simp only [inK, lenR] at *; omega) | (simp; done) | fail)) (Nx.mk ?_); conv => whnf) | (refine mkNat (by omega) (by omega) (Nx.mk ?_); conv => whnf) | (refine ar64 (by omega) (Nx.mk ?_); conv => whnf) | (refine ar_in (by (first | exact trivial | assumption | omega | (simp only [inK, lenR] at *; omega) | (simp; done) | fail)) (Nx.mk ?_); conv => whnf) | (refine nilQ (fun _ => Nx.mk ?_) (Nx.mk ?_) <;> conv => whnf) | (refine condN Try.underlying4 (Nx.mk ?_); conv => whnf) | (refine condN (by (first | exact trivial | assumption | omega | (simp only [inK, lenR] at *; omega) | (simp; done) | fail)) (Nx.mk ?_); conv => whnf) | (refine Nx.mk ?_; conv => whnf))
            · rename_i hsn
              have e9 := bfsT_skip (g := g) (l := eFrom g a) (a := a) (m := (sr (bfsC g usAll) (s, s) k)) (i := i) hi' hsn
              refine ⟨i + 1, by omega, by omega, ?_⟩
              ((try conv => whnf); refine ⟨rfl, by rfl, ?_, ?_⟩ <;> ((repeat' ((try conv => whnf); (first | exact trivial | exact Eq.refl _ | exact Or.inl (Eq.refl _) | refine And.intro ?_ ?_ | exact fun _ _ _ _ => Eq.refl _ | refine cellJ (fun _ _ => ?_) | (refine cellB ?_; (conv => whnf); refine And.intro ?_ ?_) | exact Nat.le_of_ble_eq_true (Eq.refl true) | exact ⟨_, _, Eq.refl _, Eq.refl _⟩ | fail))) <;> (try conv => whnf)))
              · rw [e9]
              · rw [e9]
            · rename_i hsn
              have e9 := bfsT_add (g := g) (l := eFrom g a) (a := a) (m := (sr (bfsC g usAll) (s, s) k)) (i := i) hi' (ntb hsn)
              have hq2 : (keys (addAll (sr (bfsC g usAll) (s, s) k) (bfsL g usAll a ((eFrom g a).take i))) ++ [(g.2.1.getD ((eFrom g a).getD i 0).toNat default).2.1]).getD k 0 = a := by
                rw [List.getD_eq_getElem?_getD, List.getElem?_append_left (by omega), ← List.getD_eq_getElem?_getD]; exact hq
              refine ⟨i + 1, by omega, by omega, ?_⟩
              ((try conv => whnf); refine ⟨rfl, by rfl, ?_, ?_⟩ <;> ((repeat' ((try conv => whnf); (first | exact trivial | exact Eq.refl _ | exact Or.inl (Eq.refl _) | refine And.intro ?_ ?_ | exact fun _ _ _ _ => Eq.refl _ | refine cellJ (fun _ _ => ?_) | (refine cellB ?_; (conv => whnf); refine And.intro ?_ ?_) | exact Nat.le_of_ble_eq_true (Eq.refl true) | exact ⟨_, _, Eq.refl _, Eq.refl _⟩ | fail))) <;> (try conv => whnf)))
              · rw [e9, keys_app]
              · rw [hq2, e9]
                exact prevT_add he.2.2.1 he.2.2.2.1 (nots hsn hI1.root) (ntb hsn)
          · have ei : i = (eFrom g a).length := by omega
            subst ei
            rw [take_all] at hx1
            have e9 : sr (bfsC g usAll) (s, s) (k + 1) = addAll (sr (bfsC g usAll) (s, s) k) (bfsL g usAll a (eFrom g a)) := by
              rw [sr_succ hk', ← ha, bfsC_eF]
            refine ⟨k + 1, by rw [e9]; omega, by omega, ?_⟩
            ((try conv => whnf); refine ⟨rfl, by rfl, ?_, ?_⟩ <;> ((repeat' ((try conv => whnf); (first | exact trivial | exact Eq.refl _ | exact Or.inl (Eq.refl _) | refine And.intro ?_ ?_ | exact fun _ _ _ _ => Eq.refl _ | refine cellJ (fun _ _ => ?_) | (refine cellB ?_; (conv => whnf); refine And.intro ?_ ?_) | exact Nat.le_of_ble_eq_true (Eq.refl true) | exact ⟨_, _, Eq.refl _, Eq.refl _⟩ | fail))) <;> (try conv => whnf)))
            · rw [e9, take_all]
            · rw [e9, take_all]
      · have hk2 : (sr (bfsC g usAll) (s, s) k).length ≤ k := by omega
        have hM : sr (bfsC g usAll) (s, s) k = bfsM g usAll s := (srM_eq ⟨hs0, hs1⟩ (bfsC_rng hv) hg2 hk2).trans bfsM_eq.symm
        rw [hM] at hL hkl
        rw [hM]
        have ch := sHas_fn (keys (bfsM g usAll s)) t (by omega)
        rw [hasK] at ch
        have hIM := bfsM_inv (us := usAll) hv hs0 hs1
        have hbl1 := prevT_len g s (bfsM g usAll s)
        (repeat' first | ((with_reducible show ∃ _ : Bool, _); first | (refine ⟨_, [], _, [], _, _, ch, rfl, trivial, ?_, Nx.mk ?_⟩; (focus (((repeat' ((try conv => whnf); (first | exact trivial | exact Eq.refl _ | exact Or.inl (Eq.refl _) | refine And.intro ?_ ?_ | exact fun _ _ _ _ => Eq.refl _ | refine cellJ (fun _ _ => ?_) | (refine cellB ?_; (conv => whnf); refine And.intro ?_ ?_) | exact Nat.le_of_ble_eq_true (Eq.refl true) | exact ⟨_, _, Eq.refl _, Eq.refl _⟩ | fail))) <;> (try conv => whnf)); done)); conv => whnf))  | (refine splitD (fun hs => Nx.mk ?_) (fun hs => Nx.mk ?_) <;> ((try simp only [Ct.len] at hs); revert hs; intro _; conv => whnf)) | (refine splitB (fun _ => Nx.mk ?_) (fun _ => Nx.mk ?_) <;> conv => whnf) | (refine idxNat (by (first | exact trivial | assumption | omega | (simp only [inK, lenR] at *; omega) | (simp; done) | fail)) (Nx.mk ?_); conv => whnf) | (refine idxPred (by omega) (by (first | exact trivial | assumption | omega | (simp only [inK, lenR] at *; omega) | (simp; done) | fail)) (Nx.mk ?_); conv => whnf) | (refine idxSucc (by (first | exact trivial | assumption | omega | (simp only [inK, lenR] at *; omega) | (simp; done) | fail)) (Nx.mk ?_); conv => whnf) | (refine idxTo (by omega) (by (first | exact trivial | assumption | omega | (simp only [inK, lenR] at *; omega) | (simp; done) | fail)) (Nx.mk ?_); conv => whnf) | (refine mkNat (by omega) (by omega) (Nx.mk ?_); conv => whnf) | (refine ar64 (by omega) (Nx.mk ?_); conv => whnf) | (refine ar_in (by (first | exact trivial | assumption | omega | (simp only [inK, lenR] at *; omega) | (simp; done) | fail)) (Nx.mk ?_); conv => whnf) | (refine nilQ (fun _ => Nx.mk ?_) (Nx.mk ?_) <;> conv => whnf) | (refine condN Try.underlying4 (Nx.mk ?_); conv => whnf) | (refine condN (by (first | exact trivial | assumption | omega | (simp only [inK, lenR] at *; omega) | (simp; done) | fail)) (Nx.mk ?_); conv => whnf) | (refine Nx.mk ?_; conv => whnf))
        · rename_i hgot
          obtain ⟨i0, hi0, et⟩ := has_at hgot
          refine loopW tysOk [nm 89, nm 99] (fun i : Nat × List Int => [(15, .I ((bfsM g usAll s).getD i.1 default).1), (14, .os (rt (nm 89)))]) (fun i => [(nm 89, some (.row 3 (.ints .i64 (((bfsM g usAll s).getD i.1 default).1 :: i.2.reverse))))]) (fun i => i.1 < (bfsM g usAll s).length ∧ ∃ n', i.1 ≤ n' ∧ chain (bfsM g usAll s) s 8 t = i.2 ++ chain (bfsM g usAll s) s n' ((bfsM g usAll s).getD i.1 default).1) (fun i => i.1) (i0, []) ⟨hi0, 8, by omega, by rw [et]; rfl⟩ ?_ ?_
          · ((try conv => whnf); refine ⟨rfl, by rfl, ?_, ?_⟩ <;> ((repeat' ((try conv => whnf); (first | exact trivial | exact Eq.refl _ | exact Or.inl (Eq.refl _) | refine And.intro ?_ ?_ | exact fun _ _ _ _ => Eq.refl _ | refine cellJ (fun _ _ => ?_) | (refine cellB ?_; (conv => whnf); refine And.intro ?_ ?_) | exact Nat.le_of_ble_eq_true (Eq.refl true) | exact ⟨_, _, Eq.refl _, Eq.refl _⟩ | fail))) <;> (try conv => whnf)))
            · exact et.symm
            · rw [et]; rfl
          · rintro ⟨i, pre⟩ ⟨hi, n', hn', hc⟩
            simp only at hi hn' hc
            dsimp only
            have hcl := chain_len (m := bfsM g usAll s) (s := s) (f := 8) (a := t)
            rw [hc, List.length_append] at hcl
            have hrg := hIM.rng ((bfsM g usAll s).getD i default).1 (hasK' (has_mem hi))
            (repeat' first | (refine splitD (fun hs => Nx.mk ?_) (fun hs => Nx.mk ?_) <;> ((try simp only [Ct.len] at hs); revert hs; intro _; conv => whnf)) | (refine splitB (fun _ => Nx.mk ?_) (fun _ => Nx.mk ?_) <;> conv => whnf) | (refine idxNat (by (first | exact trivial | assumption | omega | (simp only [inK, lenR] at *; omega) | (simp; done) | fail)) (Nx.mk ?_); conv => whnf) | (refine idxPred (by omega) (by (first | exact trivial | assumption | omega | (simp only [inK, lenR] at *; omega) | (simp; done) | fail)) (Nx.mk ?_); conv => whnf) | (refine idxSucc (by (first | exact trivial | assumption | omega | (simp only [inK, lenR] at *; omega) | (simp; done) | fail)) (Nx.mk ?_); conv => whnf) | (refine idxTo (by omega) (by (first | exact trivial | assumption | omega | (simp only [inK, lenR] at *; omega) | (simp; done) | fail)) (Nx.mk ?_); conv => whnf) | (refine mkNat (by omega) (by omega) (Nx.mk ?_); conv => whnf) | (refine ar64 (by omega) (Nx.mk ?_); conv => whnf) | (refine ar_in (by (first | exact trivial | assumption | omega | (simp only [inK, lenR] at *; omega) | (simp; done) | fail)) (Nx.mk ?_); conv => whnf) | (refine nilQ (fun _ => Nx.mk ?_) (Nx.mk ?_) <;> conv => whnf) | (refine condN Try.underlying4 (Nx.mk ?_); conv => whnf) | (refine condN (by (first | exact trivial | assumption | omega | (simp only [inK, lenR] at *; omega) | (simp; done) | fail)) (Nx.mk ?_); conv => whnf) | (refine Nx.mk ?_; conv => whnf))
            · rename_i hne
              obtain ⟨j, k', hj, hg, _⟩ := bfs_up hIM hi hne
              obtain ⟨n1, rfl⟩ : ∃ n1, n' = n1 + 1 := ⟨n' - 1, by omega⟩
              rw [chain_step hne, hg] at hc
              have hpv := prevT_at (g := g) hrg.1 hrg.2 hne (has_mem hi)
              refine ⟨by simp [Ct.len]; omega, Nx.mk ?_⟩
              conv => whnf
              (repeat' first | (refine splitD (fun hs => Nx.mk ?_) (fun hs => Nx.mk ?_) <;> ((try simp only [Ct.len] at hs); revert hs; intro _; conv => whnf)) | (refine splitB (fun _ => Nx.mk ?_) (fun _ => Nx.mk ?_) <;> conv => whnf) | (refine idxNat (by (first | exact trivial | assumption | omega | (simp only [inK, lenR] at *; omega) | (simp; done) | fail)) (Nx.mk ?_); conv => whnf) | (refine idxPred (by omega) (by (first | exact trivial | assumption | omega | (simp only [inK, lenR] at *; omega) | (simp; done) | fail)) (Nx.mk ?_); conv => whnf) | (refine idxSucc (by (first | exact trivial | assumption | omega | (simp only [inK, lenR] at *; omega) | (simp; done) | fail)) (Nx.mk ?_); conv => whnf) | (refine idxTo (by omega) (by (first | exact trivial | assumption | omega | (simp only [inK, lenR] at *; omega) | (simp; done) | fail)) (Nx.mk ?_); conv => whnf) | (refine mkNat (by omega) (by omega) (Nx.mk ?_); conv => whnf) | (refine ar64 (by omega) (Nx.mk ?_); conv => whnf) | (refine ar_in (by (first | exact trivial | assumption | omega | (simp only [inK, lenR] at *; omega) | (simp; done) | fail)) (Nx.mk ?_); conv => whnf) | (refine nilQ (fun _ => Nx.mk ?_) (Nx.mk ?_) <;> conv => whnf) | (refine condN Try.underlying4 (Nx.mk ?_); conv => whnf) | (refine condN (by (first | exact trivial | assumption | omega | (simp only [inK, lenR] at *; omega) | (simp; done) | fail)) (Nx.mk ?_); conv => whnf) | (refine Nx.mk ?_; conv => whnf))
              refine ⟨(j, pre ++ [((bfsM g usAll s).getD i default).1]), ⟨by simp only; omega, n1, by simp only; omega, by simp only; rw [hc]; simp⟩, hj, [(nm 89, nm 99)], rfl, ?_⟩
              ((try conv => whnf); refine ⟨rfl, by rfl, ?_, ?_⟩ <;> ((repeat' ((try conv => whnf); (first | exact trivial | exact Eq.refl _ | exact Or.inl (Eq.refl _) | refine And.intro ?_ ?_ | exact fun _ _ _ _ => Eq.refl _ | refine cellJ (fun _ _ => ?_) | (refine cellB ?_; (conv => whnf); refine And.intro ?_ ?_) | exact Nat.le_of_ble_eq_true (Eq.refl true) | exact ⟨_, _, Eq.refl _, Eq.refl _⟩ | fail))) <;> (try conv => whnf)))
              · rw [hpv]; exact hg
              · rw [hpv, hg]; simp
            · rename_i hs
              have hs' : ((bfsM g usAll s).getD i default).1 = s := Classical.not_not.1 hs
              rw [hs', chain_at] at hc
              rw [hsp, hspB, spF_yes hgot, hgot, hc]
              refine ⟨[(16, nm 89)], rfl, ?_, ?_, ?_, fun _ => ?_⟩
              · ((try conv => whnf); refine ⟨rfl, by rfl, ?_, ?_⟩ <;> ((repeat' ((try conv => whnf); (first | exact trivial | exact Eq.refl _ | exact Or.inl (Eq.refl _) | refine And.intro ?_ ?_ | exact fun _ _ _ _ => Eq.refl _ | refine cellJ (fun _ _ => ?_) | (refine cellB ?_; (conv => whnf); refine And.intro ?_ ?_) | exact Nat.le_of_ble_eq_true (Eq.refl true) | exact ⟨_, _, Eq.refl _, Eq.refl _⟩ | fail))) <;> (try conv => whnf)))
                rw [hs']; simp
              all_goals ((repeat' ((try conv => whnf); (first | exact trivial | exact Eq.refl _ | exact Or.inl (Eq.refl _) | refine And.intro ?_ ?_ | exact fun _ _ _ _ => Eq.refl _ | refine cellJ (fun _ _ => ?_) | (refine cellB ?_; (conv => whnf); refine And.intro ?_ ?_) | exact Nat.le_of_ble_eq_true (Eq.refl true) | exact ⟨_, _, Eq.refl _, Eq.refl _⟩ | fail))) <;> (try conv => whnf))
        · rename_i hgot
          have hsp2 := spF_no hgot
          rw [hsp, hspB, hsp2, hgot]
          refine ⟨[], rfl, ?_, ?_, ?_, fun _ => ?_⟩
          · ((try conv => whnf); refine ⟨rfl, by rfl, ?_, ?_⟩ <;> ((repeat' ((try conv => whnf); (first | exact trivial | exact Eq.refl _ | exact Or.inl (Eq.refl _) | refine And.intro ?_ ?_ | exact fun _ _ _ _ => Eq.refl _ | refine cellJ (fun _ _ => ?_) | (refine cellB ?_; (conv => whnf); refine And.intro ?_ ?_) | exact Nat.le_of_ble_eq_true (Eq.refl true) | exact ⟨_, _, Eq.refl _, Eq.refl _⟩ | fail))) <;> (try conv => whnf)))
          all_goals ((repeat' ((try conv => whnf); (first | exact trivial | exact Eq.refl _ | exact Or.inl (Eq.refl _) | refine And.intro ?_ ?_ | exact fun _ _ _ _ => Eq.refl _ | refine cellJ (fun _ _ => ?_) | (refine cellB ?_; (conv => whnf); refine And.intro ?_ ?_) | exact Nat.le_of_ble_eq_true (Eq.refl true) | exact ⟨_, _, Eq.refl _, Eq.refl _⟩ | fail))) <;> (try conv => whnf))
  · have hsp := shp_no hp
    have hspB := shpB_no hp
    rw [hsp, hspB]
    (repeat' first | ((with_reducible show ∃ _ : Bool, _); first | (refine ⟨_, [], _, [], _, _, sValid_fn g h, rfl, trivial, ?_, Nx.mk ?_⟩; (focus (((repeat' ((try conv => whnf); (first | exact trivial | exact Eq.refl _ | exact Or.inl (Eq.refl _) | refine And.intro ?_ ?_ | exact fun _ _ _ _ => Eq.refl _ | refine cellJ (fun _ _ => ?_) | (refine cellB ?_; (conv => whnf); refine And.intro ?_ ?_) | exact Nat.le_of_ble_eq_true (Eq.refl true) | exact ⟨_, _, Eq.refl _, Eq.refl _⟩ | fail))) <;> (try conv => whnf)); done)); conv => whnf) | (refine ⟨_, [], _, [], _, _, l1In_fn _ _ _, rfl, trivial, (by ((repeat' ((try conv => whnf); (first | exact trivial | exact Eq.refl _ | exact Or.inl (Eq.refl _) | refine And.intro ?_ ?_ | exact fun _ _ _ _ => Eq.refl _ | refine cellJ (fun _ _ => ?_) | (refine cellB ?_; (conv => whnf); refine And.intro ?_ ?_) | exact Nat.le_of_ble_eq_true (Eq.refl true) | exact ⟨_, _, Eq.refl _, Eq.refl _⟩ | fail))) <;> (try conv => whnf))), Nx.mk ?_⟩; conv => whnf))  | (refine splitD (fun hs => Nx.mk ?_) (fun hs => Nx.mk ?_) <;> ((try simp only [Ct.len] at hs); revert hs; intro _; conv => whnf)) | (refine splitB (fun _ => Nx.mk ?_) (fun _ => Nx.mk ?_) <;> conv => whnf) | (refine idxNat (by (first | exact trivial | assumption | omega | (simp only [inK, lenR] at *; omega) | (simp; done) | fail)) (Nx.mk ?_); conv => whnf) | (refine idxPred (by omega) (by (first | exact trivial | assumption | omega | (simp only [inK, lenR] at *; omega) | (simp; done) | fail)) (Nx.mk ?_); conv => whnf) | (refine idxSucc (by (first | exact trivial | assumption | omega | (simp only [inK, lenR] at *; omega) | (simp; done) | fail)) (Nx.mk ?_); conv => whnf) | (refine idxTo (by omega) (by (first | exact trivial | assumption | omega | (simp only [inK, lenR] at *; omega) | (simp; done) | fail)) (Nx.mk ?_); conv => whnf) | (refine mkNat (by omega) (by omega) (Nx.mk ?_); conv => whnf) | (refine ar64 (by omega) (Nx.mk ?_); conv => whnf) | (refine ar_in (by (first | exact trivial | assumption | omega | (simp only [inK, lenR] at *; omega) | (simp; done) | fail)) (Nx.mk ?_); conv => whnf) | (refine nilQ (fun _ => Nx.mk ?_) (Nx.mk ?_) <;> conv => whnf) | (refine condN Try.underlying4 (Nx.mk ?_); conv => whnf) | (refine condN (by (first | exact trivial | assumption | omega | (simp only [inK, lenR] at *; omega) | (simp; done) | fail)) (Nx.mk ?_); conv => whnf) | (refine Or.inr (Nx.mk ?_); conv => whnf) | (refine Nx.mk ?_; conv => whnf))
    all_goals first
      | (refine ⟨[], rfl, ?_, ?_, ?_, fun _ => ?_⟩
         · ((try conv => whnf); refine ⟨rfl, by rfl, ?_, ?_⟩ <;> ((repeat' ((try conv => whnf); (first | exact trivial | exact Eq.refl _ | exact Or.inl (Eq.refl _) | refine And.intro ?_ ?_ | exact fun _ _ _ _ => Eq.refl _ | refine cellJ (fun _ _ => ?_) | (refine cellB ?_; (conv => whnf); refine And.intro ?_ ?_) | exact Nat.le_of_ble_eq_true (Eq.refl true) | exact ⟨_, _, Eq.refl _, Eq.refl _⟩ | fail))) <;> (try conv => whnf)))
         all_goals ((repeat' ((try conv => whnf); (first | exact trivial | exact Eq.refl _ | exact Or.inl (Eq.refl _) | refine And.intro ?_ ?_ | exact fun _ _ _ _ => Eq.refl _ | refine cellJ (fun _ _ => ?_) | (refine cellB ?_; (conv => whnf); refine And.intro ?_ ?_) | exact Nat.le_of_ble_eq_true (Eq.refl true) | exact ⟨_, _, Eq.refl _, Eq.refl _⟩ | fail))) <;> (try conv => whnf))
         done)
      | (exfalso
         have hV := validG_iff.1 (by assumption)
         have hw : IntKind.wrap .i64 (g.1 - 1) = g.1 - 1 := topN_eq hV.lo hV.hi
         exact hp ⟨hV, by omega, by omega, by omega, by omega⟩)
end Go.Proofs.Ytmnbpamaiboghaa
