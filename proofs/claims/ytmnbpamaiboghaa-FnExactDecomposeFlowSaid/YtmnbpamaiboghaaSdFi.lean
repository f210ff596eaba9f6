/-
  The edges of a path; its capacity and price.
-/
import Derived.Test.YtmnbpamaiboghaaSdFh
import Derived.Test.YtmnbpamaiboghaaSdFg
namespace Go.Proofs.Ytmnbpamaiboghaa
set_option linter.unusedVariables false
set_option linter.unusedSimpArgs false
set_option maxRecDepth 100000
set_option maxHeartbeats 4000000
attribute [local irreducible] Fn
theorem idxOf_lt {X : Type} [Inhabited X] {φ : X → Bool} {xs : List X} (h : 0 ≤ idxOf φ xs) : idxOf φ xs < xs.length := by
  unfold idxOf at h ⊢
  cases hf : xs.findIdx? φ with
  | none => rw [hf] at h; simp at h
  | some i =>
    obtain ⟨h1, _⟩ := List.findIdx?_eq_some_iff_getElem.1 hf
    simp; exact h1
/-- The edge into node i + 1 of a path. -/
def pe (g : Gr) (p : List Int) (i : Nat) : Int := eb g (p.getD i 0) (p.getD (i + 1) 0)
def pes (g : Gr) (p : List Int) : List Int := (List.range (p.length - 1)).map (pe g p)
theorem pes_len (g : Gr) (p : List Int) : (pes g p).length = p.length - 1 := by simp [pes]
theorem pes_getD {g : Gr} {p : List Int} {i : Nat} (h : i < p.length - 1) : (pes g p).getD i 0 = pe g p i := by
  simp [pes, List.getD_eq_getElem?_getD, h]
theorem pe_ok {g : Gr} {p : List Int} (h : IsP g p) {i : Nat} (hi : i < p.length - 1) : 0 ≤ pe g p i ∧ pe g p i < g.2.1.length := by
  have h1 := (h.at_ (i + 1) (by omega)).2.2.2 (by omega)
  exact ⟨h1, idxOf_lt h1⟩
theorem pathEdges_fn (g : Gr) (p : L1) (h : g.2.1.length ≤ 1048576) (h1 : p.1.length ≤ 1048576) : Fn Try.prog 86 true (.cons (GrA g) (.cons (L1A p) .nil)) [] (.os (rt 16)) [(16, .row 3 (.ints .i64 (pes g p.1)))] := by
  (refine Fn_of tysOk Try.func86 rfl rfl (by simp [AV.len, Try.f86]) ⟨?_⟩; conv => whnf)
  refine loopI tysOk [] (fun i : Nat => [(6, .I i), (5, .os (rt (nm 29)))]) (fun i => [(nm 29, some (.row 3 (.ints .i64 ((List.range (i - 1)).map (pe g p.1)))))]) (fun i => 1 ≤ i ∧ i ≤ max 1 p.1.length) (fun i => p.1.length - i) 1 ⟨Nat.le_refl _, by omega⟩ ?_ ?_
  · ((try conv => whnf); refine ⟨rfl, by rfl, ?_, ?_⟩ <;> ((repeat' ((try conv => whnf); (first | exact trivial | exact Eq.refl _ | exact Or.inl (Eq.refl _) | refine And.intro ?_ ?_ | exact fun _ _ _ _ => Eq.refl _ | refine cellJ (fun _ _ => ?_) | (refine cellB ?_; (conv => whnf); refine And.intro ?_ ?_) | exact Nat.le_of_ble_eq_true (Eq.refl true) | exact ⟨_, _, Eq.refl _, Eq.refl _⟩ | fail))) <;> (try conv => whnf)))
  · rintro i ⟨hi, hi1⟩
    (repeat' first | (refine splitD (fun hs => Nx.mk ?_) (fun hs => Nx.mk ?_) <;> ((try simp only [Ct.len] at hs); revert hs; intro _; conv => whnf)) | (refine splitB (fun _ => Nx.mk ?_) (fun _ => Nx.mk ?_) <;> conv => whnf) | (refine idxNat (by (first | exact trivial | assumption | omega | (simp only [inK, lenR] at *; omega) | (simp; done) | fail)) (Nx.mk ?_); conv => whnf) | (refine idxPred (by omega) (by (first | exact trivial | assumption | omega | (simp only [inK, lenR] at *; omega) | (simp; done) | fail)) (Nx.mk ?_); conv => whnf) | (refine idxSucc (by (first | exact trivial | assumption | omega | (simp only [inK, lenR] at *; omega) | (simp; done) | fail)) (Nx.mk ?_); conv => whnf) | (refine idxTo (by omega) (by (first | exact trivial | assumption | omega | (simp only [inK, lenR] at *; omega) | (simp; done) | fail)) (Nx.mk ?_); conv => whnf) | (refine mkNat (by omega) (by omega) (Nx.mk ?_); conv => whnf) | (refine ar64 (by omega) (Nx.mk ?_); conv => whnf) | (refine ar_in (by (first | exact trivial | assumption | omega | (simp only [inK, lenR] at *; omega) | (simp; done) | fail)) (Nx.mk ?_); conv => whnf) | (refine nilQ (fun _ => Nx.mk ?_) (Nx.mk ?_) <;> conv => whnf) | (refine condN Try.underlying4 (Nx.mk ?_); conv => whnf) | (refine condN (by (first | exact trivial | assumption | omega | (simp only [inK, lenR] at *; omega) | (simp; done) | fail)) (Nx.mk ?_); conv => whnf) | (refine Nx.mk ?_; conv => whnf))
    · (refine VC_draw (sf := []) tysOk (by kernel_rfl) (by kernel_rfl) (Nx.mk ?_); conv => whnf)
      (repeat' first | ((with_reducible show ∃ _ : Bool, _); first | (refine ⟨_, [], _, [], _, _, iEb_fn g (p.1.getD (i - 1) 0) (p.1.getD i 0) h, rfl, trivial, ?_, Nx.mk ?_⟩; (focus (((repeat' ((try conv => whnf); (first | exact trivial | exact Eq.refl _ | exact Or.inl (Eq.refl _) | refine And.intro ?_ ?_ | exact fun _ _ _ _ => Eq.refl _ | refine cellJ (fun _ _ => ?_) | (refine cellB ?_; (conv => whnf); refine And.intro ?_ ?_) | exact Nat.le_of_ble_eq_true (Eq.refl true) | exact ⟨_, _, Eq.refl _, Eq.refl _⟩ | fail))) <;> (try conv => whnf)); done)); conv => whnf))  | (refine splitD (fun hs => Nx.mk ?_) (fun hs => Nx.mk ?_) <;> ((try simp only [Ct.len] at hs); revert hs; intro _; conv => whnf)) | (refine splitB (fun _ => Nx.mk ?_) (fun _ => Nx.mk ?_) <;> conv => whnf) | (refine idxNat (by (first | exact trivial | assumption | omega | (simp only [inK, lenR] at *; omega) | (simp; done) | fail)) (Nx.mk ?_); conv => whnf) | (refine idxPred (by omega) (by (first | exact trivial | assumption | omega | (simp only [inK, lenR] at *; omega) | (simp; done) | fail)) (Nx.mk ?_); conv => whnf) | (refine idxSucc (by (first | exact trivial | assumption | omega | (simp only [inK, lenR] at *; omega) | (simp; done) | fail)) (Nx.mk ?_); conv => whnf) | (refine idxTo (by omega) (by (first | exact trivial | assumption | omega | (simp only [inK, lenR] at *; omega) | (simp; done) | fail)) (Nx.mk ?_); conv => whnf) | (refine mkNat (by omega) (by omega) (Nx.mk ?_); conv => whnf) | (refine ar64 (by omega) (Nx.mk ?_); conv => whnf) | (refine ar_in (by (first | exact trivial | assumption | omega | (simp only [inK, lenR] at *; omega) | (simp; done) | fail)) (Nx.mk ?_); conv => whnf) | (refine nilQ (fun _ => Nx.mk ?_) (Nx.mk ?_) <;> conv => whnf) | (refine condN Try.underlying4 (Nx.mk ?_); conv => whnf) | (refine condN (by (first | exact trivial | assumption | omega | (simp only [inK, lenR] at *; omega) | (simp; done) | fail)) (Nx.mk ?_); conv => whnf) | (refine Nx.mk ?_; conv => whnf))
      refine ⟨i + 1, ⟨by omega, by omega⟩, by omega, ?_⟩
      ((try conv => whnf); refine ⟨rfl, by rfl, ?_, ?_⟩ <;> ((repeat' ((try conv => whnf); (first | exact trivial | exact Eq.refl _ | exact Or.inl (Eq.refl _) | refine And.intro ?_ ?_ | exact fun _ _ _ _ => Eq.refl _ | refine cellJ (fun _ _ => ?_) | (refine cellB ?_; (conv => whnf); refine And.intro ?_ ?_) | exact Nat.le_of_ble_eq_true (Eq.refl true) | exact ⟨_, _, Eq.refl _, Eq.refl _⟩ | fail))) <;> (try conv => whnf)))
      obtain ⟨j, rfl⟩ : ∃ j, i = j + 1 := ⟨i - 1, by omega⟩
      simp only [Nat.add_sub_cancel]
      rw [map_range_succ]; rfl
    · refine ⟨[(16, nm 29)], rfl, ?_, ?_, ?_, fun _ => ?_⟩
      · ((try conv => whnf); refine ⟨rfl, by rfl, ?_, ?_⟩ <;> ((repeat' ((try conv => whnf); (first | exact trivial | exact Eq.refl _ | exact Or.inl (Eq.refl _) | refine And.intro ?_ ?_ | exact fun _ _ _ _ => Eq.refl _ | refine cellJ (fun _ _ => ?_) | (refine cellB ?_; (conv => whnf); refine And.intro ?_ ?_) | exact Nat.le_of_ble_eq_true (Eq.refl true) | exact ⟨_, _, Eq.refl _, Eq.refl _⟩ | fail))) <;> (try conv => whnf)))
        have e : i - 1 = p.1.length - 1 := by omega
        rw [e]; rfl
      all_goals ((repeat' ((try conv => whnf); (first | exact trivial | exact Eq.refl _ | exact Or.inl (Eq.refl _) | refine And.intro ?_ ?_ | exact fun _ _ _ _ => Eq.refl _ | refine cellJ (fun _ _ => ?_) | (refine cellB ?_; (conv => whnf); refine And.intro ?_ ?_) | exact Nat.le_of_ble_eq_true (Eq.refl true) | exact ⟨_, _, Eq.refl _, Eq.refl _⟩ | fail))) <;> (try conv => whnf))
/-- The capacity of the edge into node i + 1. -/
def pc (g : Gr) (p : List Int) (i : Nat) : Int := (g.2.1.getD (pe g p i).toNat default).2.2.1
def minUp (f : Nat → Int) : Nat → Int
  | 0 => 8
  | n + 1 => min (minUp f n) (f n)
noncomputable def pcap (g : Gr) (p : List Int) : Int := if isP g p = true ∧ p.length ≠ 1 then minUp (pc g p) (p.length - 1) else 0
/-- Sums as the program reckons them. -/
def sumW (f : Nat → Int) : Nat → Int
  | 0 => 0
  | n + 1 => IntKind.wrap .i64 (sumW f n + f n)
def pv (g : Gr) (v p : List Int) (i : Nat) : Int := v.getD (pe g p i).toNat 0
noncomputable def pprice (g : Gr) (v p : List Int) : Int := if isP g p = true ∧ v.length = g.2.1.length then sumW (pv g v p) (p.length - 1) else -1
end Go.Proofs.Ytmnbpamaiboghaa
