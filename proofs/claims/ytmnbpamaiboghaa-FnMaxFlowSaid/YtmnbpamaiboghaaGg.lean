/-
  What is reached, of the reference; TopologicalOrder of both.
-/
import Derived.Test.YtmnbpamaiboghaaGf
import Derived.Test.YtmnbpamaiboghaaFo
import Derived.Test.YtmnbpamaiboghaaVC
namespace Go.Proofs.Ytmnbpamaiboghaa
set_option linter.unusedVariables false
set_option linter.unusedSimpArgs false
set_option maxRecDepth 100000
set_option maxHeartbeats 4000000
attribute [local irreducible] Fn
theorem rstart_zero {n : Nat} {l : List Int} : rstart n l 0 = List.replicate n false := rfl
theorem rstart_succ {n k : Nat} {l : List Int} : rstart n l (k + 1) = (rstart n l k).set (l.getD k 0).toNat true := rfl
theorem rr_zero {g : Gr} {s : List Bool} : rr g s 0 = s := rfl
theorem rr_succ {g : Gr} {s : List Bool} {n : Nat} : rr g s (n + 1) = rpass g (rr g s n) g.2.1.length := rfl
theorem rpass_zero {g : Gr} {s : List Bool} : rpass g s 0 = s := rfl
theorem rpass_yes {g : Gr} {s : List Bool} {n : Nat} (h : (rpass g s n).getD (g.2.1.getD n default).1.toNat false = true) : rpass g s (n + 1) = (rpass g s n).set (g.2.1.getD n default).2.1.toNat true := if_pos h
theorem rpass_no {g : Gr} {s : List Bool} {n : Nat} (h : (rpass g s n).getD (g.2.1.getD n default).1.toNat false = false) : rpass g s (n + 1) = rpass g s n := if_neg (fun h2 => by have h3 : (rpass g s n).getD (g.2.1.getD n default).1.toNat false = true := h2; rw [h] at h3; cases h3)
theorem reachL_eq {g : Gr} {l : List Int} : reachL g l = rr g (rstart g.1.toNat l l.length) g.1.toNat := rfl
theorem toL_zero {g : Gr} {a : Int} : toL g a 0 = [] := rfl
theorem tos_eq {g : Gr} {a : Int} : tos g a = toL g a (eFrom g a).length := rfl
theorem ntbT {b : Bool} (h : b = false) : ¬ b = true := by simp [h]
theorem toL_succ' {g : Gr} {a : Int} {i : Nat} (h : i < (eFrom g a).length) : toL g a (i + 1) = toL g a i ++ [(g.2.1.getD ((eFrom g a).getD i 0).toNat default).2.1] := toL_succ h
theorem eFrom_leT {g : Gr} {a : Int} : (eFrom g a).length ≤ g.2.1.length := idxs_len
theorem eTo_leT {g : Gr} {a : Int} : (eTo g a).length ≤ g.2.1.length := idxs_len
theorem eFrom_okT {g : Gr} {a : Int} {k : Nat} (h : k < (eFrom g a).length) : 0 ≤ (eFrom g a).getD k 0 ∧ (eFrom g a).getD k 0 < g.2.1.length := ⟨(idxs_at h).1, (idxs_at h).2.1⟩
theorem eTo_okT {g : Gr} {a : Int} {k : Nat} (h : k < (eTo g a).length) : 0 ≤ (eTo g a).getD k 0 ∧ (eTo g a).getD k 0 < g.2.1.length := ⟨(idxs_at h).1, (idxs_at h).2.1⟩
theorem hasI_mem {xs : List Int} {x : Int} : hasI xs x = true ↔ x ∈ xs := memI_iff
theorem hasI_not {xs : List Int} {x : Int} (h : hasI xs x = false) : x ∉ xs := fun h2 => by rw [hasI_mem.2 h2] at h; cases h
theorem rdy_to {g : Gr} {out : List Int} {a : Int} : Rdy g out a ↔ a ∉ out ∧ ∀ i, i < (eTo g a).length → (g.2.1.getD ((eTo g a).getD i 0).toNat default).1 ∈ out := by
  unfold Rdy
  refine and_congr_right (fun _ => ⟨fun h i hi => ?_, fun h k hk he => ?_⟩)
  · have := idxs_at hi
    have h9 := eTo_okT hi
    exact h ((eTo g a).getD i 0).toNat (by omega) (of_decide_eq_true this.2.2)
  · have hm : (k : Int) ∈ eTo g a := idxs_mem.2 ⟨k, hk, rfl, decide_eq_true he⟩
    obtain ⟨i, hi, e⟩ := mem_getD hm
    have := h i hi
    rw [e] at this
    exact this
open Classical in
noncomputable def acyB (g : Gr) : Bool := decide (ValidG g ∧ Acyc g)
theorem acyB_iff {g : Gr} : acyB g = true ↔ ValidG g ∧ Acyc g := by simp [acyB]
theorem acyB_true {g : Gr} (h : ValidG g ∧ Acyc g) : true = acyB g := (acyB_iff.2 h).symm
theorem acyB_false {g : Gr} (h : ¬ (ValidG g ∧ Acyc g)) : false = acyB g := by simp [acyB, h]
noncomputable def topoL (g : Gr) : List Int := if acyB g = true then topR g g.1.toNat else []
theorem topoL_yes {g : Gr} (h : acyB g = true) : topoL g = topR g g.1.toNat := if_pos h
theorem topoL_no {g : Gr} (h : acyB g = false) : topoL g = [] := if_neg (by simp [h])
theorem topR_step {g : Gr} {n a : Nat} (ha : (a : Int) < g.1) (h : Rdy g (topR g n) a) (hn : ∀ b : Nat, b < a → ¬ Rdy g (topR g n) (b : Int)) : topR g (n + 1) = topR g n ++ [(a : Int)] := by
  show (match nextN g (topR g n) with | some a => topR g n ++ [(a : Int)] | none => topR g n) = _
  rw [nextN_at ha h hn]
theorem topR_grow {g : Gr} {n : Nat} (hv : ValidG g) (hc : Acyc g) (hl : (topR g n).length = n) (hn : n < g.1.toNat) : ∃ a : Nat, (a : Int) < g.1 ∧ Rdy g (topR g n) a := by
  cases h : nextN g (topR g n) with
  | none => exact absurd h (acyc_next hv topR_inv (by omega) hc)
  | some a => exact ⟨a, nextN_some h⟩
theorem topR_zero {g : Gr} : topR g 0 = [] := rfl
theorem topoL_len {g : Gr} : (topoL g).length ≤ 8 := by
  cases h : acyB g with
  | true => rw [topoL_yes h]; have h1 := topR_le (g := g) (n := g.1.toNat); have h2 := (acyB_iff.1 h).1.hi; omega
  | false => rw [topoL_no h]; simp
attribute [local irreducible] rstart rr rpass reachL toL tos eFrom eTo topR topoL acyB hasI
theorem sReach_fn (g : Gr) (l : List Int) (hv : ValidG g) (hl : l.length ≤ 1048576) (hr : ∀ k, k < l.length → 0 ≤ l.getD k 0 ∧ l.getD k 0 < g.1) : Fn Try.prog 92 true (.cons (GrA g) (.cons (.ri false .i64 l) .nil)) [] (.os (rt 16)) [(16, .row 4 (.bools (reachL g l)))] := by
  have hlen := hv.len
  have hg1 := hv.lo
  have hg2 := hv.hi
  (refine Fn_of tysOk Try.func92 rfl rfl (by simp [AV.len, Try.f92]) ⟨?_⟩; conv => whnf)
  (repeat' first | (refine splitD (fun hs => Nx.mk ?_) (fun hs => Nx.mk ?_) <;> ((try simp only [Ct.len] at hs); revert hs; intro _; conv => whnf)) | (refine splitB (fun _ => Nx.mk ?_) (fun _ => Nx.mk ?_) <;> conv => whnf) | (refine idxNat (by (first | exact trivial | assumption | omega | (simp only [inK, lenR] at *; omega) | (simp; done) | fail)) (Nx.mk ?_); conv => whnf) | (refine idxPred (by omega) (by (first | exact trivial | assumption | omega | (simp only [inK, lenR] at *; omega) | (simp; done) | fail)) (Nx.mk ?_); conv => whnf) | (refine idxSucc (by (first | exact trivial | assumption | omega | (simp only [inK, lenR] at *; omega) | (simp; done) | fail)) (Nx.mk ?_); conv => whnf) | (refine idxTo (by omega) (by (first | exact trivial | assumption | omega | (simp only [inK, lenR] at *; omega) | (simp; done) | fail)) (Nx.mk ?_); conv => whnf) | (refine mkNat (by omega) (by omega) (Nx.mk ?_); conv => whnf) | (refine ar64 (by omega) (Nx.mk ?_); conv => whnf) | (refine ar_in (by (first | exact trivial | assumption | omega | (simp only [inK, lenR] at *; omega) | (simp; done) | fail)) (Nx.mk ?_); conv => whnf) | (refine nilQ (fun _ => Nx.mk ?_) (Nx.mk ?_) <;> conv => whnf) | (refine condN Try.underlying4 (Nx.mk ?_); conv => whnf) | (refine condN (by (first | exact trivial | assumption | omega | (simp only [inK, lenR] at *; omega) | (simp; done) | fail)) (Nx.mk ?_); conv => whnf) | (refine Nx.mk ?_; conv => whnf))
  refine ⟨g.1.toNat, g.1.toNat, by omega, by omega, Nat.le_refl _, by omega, Nx.mk ?_⟩
  conv => whnf
  (repeat' first | (refine splitD (fun hs => Nx.mk ?_) (fun hs => Nx.mk ?_) <;> ((try simp only [Ct.len] at hs); revert hs; intro _; conv => whnf)) | (refine splitB (fun _ => Nx.mk ?_) (fun _ => Nx.mk ?_) <;> conv => whnf) | (refine idxNat (by (first | exact trivial | assumption | omega | (simp only [inK, lenR] at *; omega) | (simp; done) | fail)) (Nx.mk ?_); conv => whnf) | (refine idxPred (by omega) (by (first | exact trivial | assumption | omega | (simp only [inK, lenR] at *; omega) | (simp; done) | fail)) (Nx.mk ?_); conv => whnf) | (refine idxSucc (by (first | exact trivial | assumption | omega | (simp only [inK, lenR] at *; omega) | (simp; done) | fail)) (Nx.mk ?_); conv => whnf) | (refine idxTo (by omega) (by (first | exact trivial | assumption | omega | (simp only [inK, lenR] at *; omega) | (simp; done) | fail)) (Nx.mk ?_); conv => whnf) | (refine mkNat (by omega) (by omega) (Nx.mk ?_); conv => whnf) | (refine ar64 (by omega) (Nx.mk ?_); conv => whnf) | (refine ar_in (by (first | exact trivial | assumption | omega | (simp only [inK, lenR] at *; omega) | (simp; done) | fail)) (Nx.mk ?_); conv => whnf) | (refine nilQ (fun _ => Nx.mk ?_) (Nx.mk ?_) <;> conv => whnf) | (refine condN Try.underlying4 (Nx.mk ?_); conv => whnf) | (refine condN (by (first | exact trivial | assumption | omega | (simp only [inK, lenR] at *; omega) | (simp; done) | fail)) (Nx.mk ?_); conv => whnf) | (refine Nx.mk ?_; conv => whnf))
  refine loopI tysOk [] (fun i : Nat => [(6, .I i)]) (fun i => [(nm 11, some (.row 4 (.bools (rstart g.1.toNat l i))))]) (fun i => i ≤ l.length) (fun i => l.length - i) 0 (Nat.zero_le _) ?_ ?_
  · ((try conv => whnf); refine ⟨rfl, by rfl, ?_, ?_⟩ <;> ((repeat' ((try conv => whnf); (first | exact trivial | exact Eq.refl _ | exact Or.inl (Eq.refl _) | refine And.intro ?_ ?_ | exact fun _ _ _ _ => Eq.refl _ | refine cellJ (fun _ _ => ?_) | (refine cellB ?_; (conv => whnf); refine And.intro ?_ ?_) | exact Nat.le_of_ble_eq_true (Eq.refl true) | exact ⟨_, _, Eq.refl _, Eq.refl _⟩ | fail))) <;> (try conv => whnf)))
    exact rstart_zero.symm
  · intro i hi
    have hsl := rstart_len (n := g.1.toNat) (l := l) (k := i)
    have hri := hr i
    (repeat' first | (refine splitD (fun hs => Nx.mk ?_) (fun hs => Nx.mk ?_) <;> ((try simp only [Ct.len] at hs); revert hs; intro _; conv => whnf)) | (refine splitB (fun _ => Nx.mk ?_) (fun _ => Nx.mk ?_) <;> conv => whnf) | (refine idxNat (by (first | exact trivial | assumption | omega | (simp only [inK, lenR] at *; omega) | (simp; done) | fail)) (Nx.mk ?_); conv => whnf) | (refine idxPred (by omega) (by (first | exact trivial | assumption | omega | (simp only [inK, lenR] at *; omega) | (simp; done) | fail)) (Nx.mk ?_); conv => whnf) | (refine idxSucc (by (first | exact trivial | assumption | omega | (simp only [inK, lenR] at *; omega) | (simp; done) | fail)) (Nx.mk ?_); conv => whnf) | (refine idxTo (by omega) (by (first | exact trivial | assumption | omega | (simp only [inK, lenR] at *; omega) | (simp; done) | fail)) (Nx.mk ?_); conv => whnf) | (refine mkNat (by omega) (by omega) (Nx.mk ?_); conv => whnf) | (refine ar64 (by omega) (Nx.mk ?_); conv => whnf) | (refine ar_in (by (first | exact trivial | assumption | omega | (simp only [inK, lenR] at *; omega) | (simp; done) | fail)) (Nx.mk ?_); conv => whnf) | (refine nilQ (fun _ => Nx.mk ?_) (Nx.mk ?_) <;> conv => whnf) | (refine condN Try.underlying4 (Nx.mk ?_); conv => whnf) | (refine condN (by (first | exact trivial | assumption | omega | (simp only [inK, lenR] at *; omega) | (simp; done) | fail)) (Nx.mk ?_); conv => whnf) | (refine Nx.mk ?_; conv => whnf))
    · have hri := hri (by omega)
      (repeat' first | (refine splitD (fun hs => Nx.mk ?_) (fun hs => Nx.mk ?_) <;> ((try simp only [Ct.len] at hs); revert hs; intro _; conv => whnf)) | (refine splitB (fun _ => Nx.mk ?_) (fun _ => Nx.mk ?_) <;> conv => whnf) | (refine idxNat (by (first | exact trivial | assumption | omega | (simp only [inK, lenR] at *; omega) | (simp; done) | fail)) (Nx.mk ?_); conv => whnf) | (refine idxPred (by omega) (by (first | exact trivial | assumption | omega | (simp only [inK, lenR] at *; omega) | (simp; done) | fail)) (Nx.mk ?_); conv => whnf) | (refine idxSucc (by (first | exact trivial | assumption | omega | (simp only [inK, lenR] at *; omega) | (simp; done) | fail)) (Nx.mk ?_); conv => whnf) | (refine idxTo (by omega) (by (first | exact trivial | assumption | omega | (simp only [inK, lenR] at *; omega) | (simp; done) | fail)) (Nx.mk ?_); conv => whnf) | (refine mkNat (by omega) (by omega) (Nx.mk ?_); conv => whnf) | (refine ar64 (by omega) (Nx.mk ?_); conv => whnf) | (refine ar_in (by (first | exact trivial | assumption | omega | (simp only [inK, lenR] at *; omega) | (simp; done) | fail)) (Nx.mk ?_); conv => whnf) | (refine nilQ (fun _ => Nx.mk ?_) (Nx.mk ?_) <;> conv => whnf) | (refine condN Try.underlying4 (Nx.mk ?_); conv => whnf) | (refine condN (by (first | exact trivial | assumption | omega | (simp only [inK, lenR] at *; omega) | (simp; done) | fail)) (Nx.mk ?_); conv => whnf) | (refine Nx.mk ?_; conv => whnf))
      refine ⟨i + 1, by omega, by omega, ?_⟩
      ((try conv => whnf); refine ⟨rfl, by rfl, ?_, ?_⟩ <;> ((repeat' ((try conv => whnf); (first | exact trivial | exact Eq.refl _ | exact Or.inl (Eq.refl _) | refine And.intro ?_ ?_ | exact fun _ _ _ _ => Eq.refl _ | refine cellJ (fun _ _ => ?_) | (refine cellB ?_; (conv => whnf); refine And.intro ?_ ?_) | exact Nat.le_of_ble_eq_true (Eq.refl true) | exact ⟨_, _, Eq.refl _, Eq.refl _⟩ | fail))) <;> (try conv => whnf)))
      exact rstart_succ.symm
    · have ei : i = l.length := by omega
      subst ei
      refine loopI tysOk [] (fun r : Nat => [(7, .I r)]) (fun r => [(nm 11, some (.row 4 (.bools (rr g (rstart g.1.toNat l l.length) r))))]) (fun r => r ≤ g.1.toNat) (fun r => g.1.toNat - r) 0 (Nat.zero_le _) ?_ ?_
      · ((try conv => whnf); refine ⟨rfl, by rfl, ?_, ?_⟩ <;> ((repeat' ((try conv => whnf); (first | exact trivial | exact Eq.refl _ | exact Or.inl (Eq.refl _) | refine And.intro ?_ ?_ | exact fun _ _ _ _ => Eq.refl _ | refine cellJ (fun _ _ => ?_) | (refine cellB ?_; (conv => whnf); refine And.intro ?_ ?_) | exact Nat.le_of_ble_eq_true (Eq.refl true) | exact ⟨_, _, Eq.refl _, Eq.refl _⟩ | fail))) <;> (try conv => whnf)))
        exact rr_zero.symm
      · intro r hrr
        have hrl := rr_len (g := g) (s := rstart g.1.toNat l l.length) (n := r)
        (repeat' first | (refine splitD (fun hs => Nx.mk ?_) (fun hs => Nx.mk ?_) <;> ((try simp only [Ct.len] at hs); revert hs; intro _; conv => whnf)) | (refine splitB (fun _ => Nx.mk ?_) (fun _ => Nx.mk ?_) <;> conv => whnf) | (refine idxNat (by (first | exact trivial | assumption | omega | (simp only [inK, lenR] at *; omega) | (simp; done) | fail)) (Nx.mk ?_); conv => whnf) | (refine idxPred (by omega) (by (first | exact trivial | assumption | omega | (simp only [inK, lenR] at *; omega) | (simp; done) | fail)) (Nx.mk ?_); conv => whnf) | (refine idxSucc (by (first | exact trivial | assumption | omega | (simp only [inK, lenR] at *; omega) | (simp; done) | fail)) (Nx.mk ?_); conv => whnf) | (refine idxTo (by omega) (by (first | exact trivial | assumption | omega | (simp only [inK, lenR] at *; omega) | (simp; done) | fail)) (Nx.mk ?_); conv => whnf) | (refine mkNat (by omega) (by omega) (Nx.mk ?_); conv => whnf) | (refine ar64 (by omega) (Nx.mk ?_); conv => whnf) | (refine ar_in (by (first | exact trivial | assumption | omega | (simp only [inK, lenR] at *; omega) | (simp; done) | fail)) (Nx.mk ?_); conv => whnf) | (refine nilQ (fun _ => Nx.mk ?_) (Nx.mk ?_) <;> conv => whnf) | (refine condN Try.underlying4 (Nx.mk ?_); conv => whnf) | (refine condN (by (first | exact trivial | assumption | omega | (simp only [inK, lenR] at *; omega) | (simp; done) | fail)) (Nx.mk ?_); conv => whnf) | (refine Nx.mk ?_; conv => whnf))
        · generalize hcc : rr g (rstart g.1.toNat l l.length) r = c at *
          refine loopI tysOk [] (fun j : Nat => [(8, .I j)]) (fun j => [(nm 11, some (.row 4 (.bools (rpass g c j))))]) (fun j => j ≤ g.2.1.length) (fun j => g.2.1.length - j) 0 (Nat.zero_le _) ?_ ?_
          · ((try conv => whnf); refine ⟨rfl, by rfl, ?_, ?_⟩ <;> ((repeat' ((try conv => whnf); (first | exact trivial | exact Eq.refl _ | exact Or.inl (Eq.refl _) | refine And.intro ?_ ?_ | exact fun _ _ _ _ => Eq.refl _ | refine cellJ (fun _ _ => ?_) | (refine cellB ?_; (conv => whnf); refine And.intro ?_ ?_) | exact Nat.le_of_ble_eq_true (Eq.refl true) | exact ⟨_, _, Eq.refl _, Eq.refl _⟩ | fail))) <;> (try conv => whnf)))
            exact rpass_zero.symm
          · intro j hj
            have hpl := rpass_len (g := g) (s := c) (n := j)
            have hends : j < g.2.1.length → _ := hv.ends (i := j)
            by_cases hjl : j < g.2.1.length
            · have he := hends hjl
              (repeat' first | (refine splitD (fun hs => Nx.mk ?_) (fun hs => Nx.mk ?_) <;> ((try simp only [Ct.len] at hs); revert hs; intro _; conv => whnf)) | (refine splitB (fun _ => Nx.mk ?_) (fun _ => Nx.mk ?_) <;> conv => whnf) | (refine idxNat (by (first | exact trivial | assumption | omega | (simp only [inK, lenR] at *; omega) | (simp; done) | fail)) (Nx.mk ?_); conv => whnf) | (refine idxPred (by omega) (by (first | exact trivial | assumption | omega | (simp only [inK, lenR] at *; omega) | (simp; done) | fail)) (Nx.mk ?_); conv => whnf) | (refine idxSucc (by (first | exact trivial | assumption | omega | (simp only [inK, lenR] at *; omega) | (simp; done) | fail)) (Nx.mk ?_); conv => whnf) | (refine idxTo (by omega) (by (first | exact trivial | assumption | omega | (simp only [inK, lenR] at *; omega) | (simp; done) | fail)) (Nx.mk ?_); conv => whnf) | (refine mkNat (by omega) (by omega) (Nx.mk ?_); conv => whnf) | (refine ar64 (by omega) (Nx.mk ?_); conv => whnf) | (refine ar_in (by (first | exact trivial | assumption | omega | (simp only [inK, lenR] at *; omega) | (simp; done) | fail)) (Nx.mk ?_); conv => whnf) | (refine nilQ (fun _ => Nx.mk ?_) (Nx.mk ?_) <;> conv => whnf) | (refine condN Try.underlying4 (Nx.mk ?_); conv => whnf) | (refine condN (by (first | exact trivial | assumption | omega | (simp only [inK, lenR] at *; omega) | (simp; done) | fail)) (Nx.mk ?_); conv => whnf) | (refine Nx.mk ?_; conv => whnf))
              (all_goals try first | contradiction | (exfalso; omega))
              · refine ⟨j + 1, by omega, by omega, ?_⟩
                ((try conv => whnf); refine ⟨rfl, by rfl, ?_, ?_⟩ <;> ((repeat' ((try conv => whnf); (first | exact trivial | exact Eq.refl _ | exact Or.inl (Eq.refl _) | refine And.intro ?_ ?_ | exact fun _ _ _ _ => Eq.refl _ | refine cellJ (fun _ _ => ?_) | (refine cellB ?_; (conv => whnf); refine And.intro ?_ ?_) | exact Nat.le_of_ble_eq_true (Eq.refl true) | exact ⟨_, _, Eq.refl _, Eq.refl _⟩ | fail))) <;> (try conv => whnf)))
                exact (rpass_yes (by assumption)).symm
              · refine ⟨j + 1, by omega, by omega, ?_⟩
                ((try conv => whnf); refine ⟨rfl, by rfl, ?_, ?_⟩ <;> ((repeat' ((try conv => whnf); (first | exact trivial | exact Eq.refl _ | exact Or.inl (Eq.refl _) | refine And.intro ?_ ?_ | exact fun _ _ _ _ => Eq.refl _ | refine cellJ (fun _ _ => ?_) | (refine cellB ?_; (conv => whnf); refine And.intro ?_ ?_) | exact Nat.le_of_ble_eq_true (Eq.refl true) | exact ⟨_, _, Eq.refl _, Eq.refl _⟩ | fail))) <;> (try conv => whnf)))
                exact (rpass_no (by assumption)).symm
            · have e : j = g.2.1.length := by omega
              subst e
              (repeat' first | (refine splitD (fun hs => Nx.mk ?_) (fun hs => Nx.mk ?_) <;> ((try simp only [Ct.len] at hs); revert hs; intro _; conv => whnf)) | (refine splitB (fun _ => Nx.mk ?_) (fun _ => Nx.mk ?_) <;> conv => whnf) | (refine idxNat (by (first | exact trivial | assumption | omega | (simp only [inK, lenR] at *; omega) | (simp; done) | fail)) (Nx.mk ?_); conv => whnf) | (refine idxPred (by omega) (by (first | exact trivial | assumption | omega | (simp only [inK, lenR] at *; omega) | (simp; done) | fail)) (Nx.mk ?_); conv => whnf) | (refine idxSucc (by (first | exact trivial | assumption | omega | (simp only [inK, lenR] at *; omega) | (simp; done) | fail)) (Nx.mk ?_); conv => whnf) | (refine idxTo (by omega) (by (first | exact trivial | assumption | omega | (simp only [inK, lenR] at *; omega) | (simp; done) | fail)) (Nx.mk ?_); conv => whnf) | (refine mkNat (by omega) (by omega) (Nx.mk ?_); conv => whnf) | (refine ar64 (by omega) (Nx.mk ?_); conv => whnf) | (refine ar_in (by (first | exact trivial | assumption | omega | (simp only [inK, lenR] at *; omega) | (simp; done) | fail)) (Nx.mk ?_); conv => whnf) | (refine nilQ (fun _ => Nx.mk ?_) (Nx.mk ?_) <;> conv => whnf) | (refine condN Try.underlying4 (Nx.mk ?_); conv => whnf) | (refine condN (by (first | exact trivial | assumption | omega | (simp only [inK, lenR] at *; omega) | (simp; done) | fail)) (Nx.mk ?_); conv => whnf) | (refine Nx.mk ?_; conv => whnf))
              (all_goals try first | contradiction | (exfalso; omega))
              refine ⟨r + 1, by omega, by omega, ?_⟩
              ((try conv => whnf); refine ⟨rfl, by rfl, ?_, ?_⟩ <;> ((repeat' ((try conv => whnf); (first | exact trivial | exact Eq.refl _ | exact Or.inl (Eq.refl _) | refine And.intro ?_ ?_ | exact fun _ _ _ _ => Eq.refl _ | refine cellJ (fun _ _ => ?_) | (refine cellB ?_; (conv => whnf); refine And.intro ?_ ?_) | exact Nat.le_of_ble_eq_true (Eq.refl true) | exact ⟨_, _, Eq.refl _, Eq.refl _⟩ | fail))) <;> (try conv => whnf)))
              rw [rr_succ, hcc]
        · have er : r = g.1.toNat := by omega
          rw [er, ← reachL_eq]
          refine ⟨[(16, nm 11)], rfl, ?_, ?_, ?_, fun _ => ?_⟩
          · ((try conv => whnf); refine ⟨rfl, by rfl, ?_, ?_⟩ <;> ((repeat' ((try conv => whnf); (first | exact trivial | exact Eq.refl _ | exact Or.inl (Eq.refl _) | refine And.intro ?_ ?_ | exact fun _ _ _ _ => Eq.refl _ | refine cellJ (fun _ _ => ?_) | (refine cellB ?_; (conv => whnf); refine And.intro ?_ ?_) | exact Nat.le_of_ble_eq_true (Eq.refl true) | exact ⟨_, _, Eq.refl _, Eq.refl _⟩ | fail))) <;> (try conv => whnf)))
          all_goals ((repeat' ((try conv => whnf); (first | exact trivial | exact Eq.refl _ | exact Or.inl (Eq.refl _) | refine And.intro ?_ ?_ | exact fun _ _ _ _ => Eq.refl _ | refine cellJ (fun _ _ => ?_) | (refine cellB ?_; (conv => whnf); refine And.intro ?_ ?_) | exact Nat.le_of_ble_eq_true (Eq.refl true) | exact ⟨_, _, Eq.refl _, Eq.refl _⟩ | fail))) <;> (try conv => whnf))
theorem any_at {φ : Edg → Bool} {xs : List Edg} {i : Nat} (hi : i < xs.length) (h : φ (xs.getD i default) = true) : xs.any φ = true := by
  rw [List.any_eq_true]
  exact ⟨xs.getD i default, by rw [List.getD_eq_getElem?_getD, List.getElem?_eq_getElem hi]; exact List.getElem_mem hi, h⟩
theorem any_no {φ : Edg → Bool} {xs : List Edg} (h : ∀ i, i < xs.length → φ (xs.getD i default) = false) : xs.any φ = false := by
  rw [List.any_eq_false]
  intro x hx
  obtain ⟨i, hi, rfl⟩ := List.getElem_of_mem hx
  have := h i hi
  rw [List.getD_eq_getElem?_getD, List.getElem?_eq_getElem hi] at this
  simpa using this
/-- An edge to node a from a node that is not there yet. -/
def wtB (out : List Int) (a : Int) (e : Edg) : Bool := decide (e.2.1 = a) && !hasI out e.1
theorem rdy_any {g : Gr} {out : List Int} {a : Int} : Rdy g out a ↔ a ∉ out ∧ g.2.1.any (wtB out a) = false := by
  unfold Rdy
  refine and_congr_right (fun _ => ⟨fun h => any_no (fun i hi => ?_), fun h k hk he => ?_⟩)
  · unfold wtB
    by_cases e : (g.2.1.getD i default).2.1 = a
    · have := hasI_mem.2 (h i hi e)
      have this' : hasI out (g.2.1.getD i default).1 = true := this
      rw [this']; simp
    · rw [decide_eq_false e]; rfl
  · refine Classical.byContradiction (fun hn => ?_)
    have h1 : wtB out a (g.2.1.getD k default) = true := by
      unfold wtB
      have he' : (g.2.1.getD k default).2.1 = a := he
      have : hasI out (g.2.1.getD k default).1 = false := Bool.eq_false_iff.2 (fun h2 => hn (hasI_mem.1 h2))
      rw [decide_eq_true he', this]; rfl
    rw [any_at hk h1] at h; cases h
end Go.Proofs.Ytmnbpamaiboghaa
