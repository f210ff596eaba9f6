/-
  The edges from a node and to a node.
-/
import Derived.Test.YtbepgedckfhifaaGreatFiFh
namespace Go.Proofs.YtbepgedckfhifaaGreat
set_option linter.unusedVariables false
set_option linter.unusedSimpArgs false
set_option maxRecDepth 100000
set_option maxHeartbeats 4000000
attribute [local irreducible] Fn
def idxs (φ : Edg → Bool) (es : List Edg) : Nat → List Int
  | 0 => []
  | n + 1 => if φ (es.getD n default) = true then idxs φ es n ++ [(n : Int)] else idxs φ es n
theorem idxs_len {φ : Edg → Bool} {es : List Edg} : ∀ {n : Nat}, (idxs φ es n).length ≤ n := by
  intro n
  induction n with
  | zero => exact Nat.le_refl _
  | succ n ih => unfold idxs; split <;> (try simp) <;> omega
theorem idxs_mem {φ : Edg → Bool} {es : List Edg} {x : Int} : ∀ {n : Nat}, x ∈ idxs φ es n ↔ ∃ i : Nat, i < n ∧ x = (i : Int) ∧ φ (es.getD i default) = true := by
  intro n
  induction n with
  | zero => exact ⟨fun h => by simp [idxs] at h, fun ⟨i, h, _⟩ => by omega⟩
  | succ n ih =>
    unfold idxs
    constructor
    · intro h
      split at h
      · rename_i hp
        rcases List.mem_append.1 h with h | h
        · obtain ⟨i, h1, h2, h3⟩ := ih.1 h; exact ⟨i, by omega, h2, h3⟩
        · exact ⟨n, by omega, by simpa using h, hp⟩
      · obtain ⟨i, h1, h2, h3⟩ := ih.1 h; exact ⟨i, by omega, h2, h3⟩
    · rintro ⟨i, h1, rfl, h3⟩
      by_cases e : i = n
      · subst e; rw [if_pos h3]; simp
      · have := ih.2 ⟨i, by omega, rfl, h3⟩
        split
        · simp [this]
        · exact this
theorem idxs_at {φ : Edg → Bool} {es : List Edg} {n k : Nat} (h : k < (idxs φ es n).length) : 0 ≤ (idxs φ es n).getD k 0 ∧ (idxs φ es n).getD k 0 < n ∧ φ (es.getD ((idxs φ es n).getD k 0).toNat default) = true := by
  have hm : (idxs φ es n).getD k 0 ∈ idxs φ es n := by
    rw [List.getD_eq_getElem?_getD, List.getElem?_eq_getElem h]; exact List.getElem_mem h
  obtain ⟨i, h1, h2, h3⟩ := idxs_mem.1 hm
  rw [h2]
  exact ⟨by omega, by omega, by simpa using h3⟩
def fromB (a : Int) (e : Edg) : Bool := decide (e.1 = a)
def toB (a : Int) (e : Edg) : Bool := decide (e.2.1 = a)
def eFrom (g : Gr) (a : Int) : List Int := idxs (fromB a) g.2.1 g.2.1.length
def eTo (g : Gr) (a : Int) : List Int := idxs (toB a) g.2.1 g.2.1.length
theorem sFrom_fn (g : Gr) (a : Int) (h : g.2.1.length ≤ 1048576) : Fn Tryz.prog 67 true (.cons (GrA g) (.cons (.I a) .nil)) [] (.os (rt 16)) [(16, .row 3 (.ints .i64 (eFrom g a)))] := by
  (refine Fn_of tysOk Tryz.func67 rfl rfl (by simp [AV.len, Tryz.f67]) ⟨?_⟩; conv => whnf)
  refine loopI tysOk [nm 7] (fun i : Nat => [(5, .os (rt (nm 7))), (6, .I i)]) (fun i => [(nm 7, some (.row 3 (.ints .i64 (idxs (fromB a) g.2.1 i))))]) (· ≤ g.2.1.length) (fun i => g.2.1.length - i) 0 (Nat.zero_le _) ?_ ?_
  · ((try conv => whnf); refine ⟨rfl, by rfl, ?_, ?_⟩ <;> ((repeat' ((try conv => whnf); (first|exact zU|refine And.intro ?_ ?_|exact fun _ _ _ _ => Eq.refl _|refine cellJ (fun _ _ => ?_)|(refine cellB ?_; (conv => whnf); refine And.intro ?_ ?_)|exact zV|fail))) <;> (try conv => whnf)))
  · intro i hi
    have hl := idxs_len (φ := fromB a) (es := g.2.1) (n := i)
    (repeat' first | (refine zK (fun hs => ?_) (fun hs => ?_) <;> ((try simp only [Ct.len] at hs); revert hs; intro _; conv => whnf)) | (refine zI (fun _ => ?_) (fun _ => ?_)<;> conv => whnf)|((first|refine zA ?_|refine zB ?_|refine zC ?_|refine zD ?_|refine zE ?_|refine zF ?_|refine zG ?_|fail); conv => whnf)|(refine zJ (fun _ => ?_) ?_<;> conv => whnf)|((first | refine condN Tryz.underlying4 (Nx.mk ?_) | refine zH ?_ | refine Nx.mk ?_); conv => whnf))
    · refine ⟨i + 1, by omega, by omega, ?_⟩
      ((try conv => whnf); refine ⟨rfl, by rfl, ?_, ?_⟩ <;> ((repeat' ((try conv => whnf); (first|exact zU|refine And.intro ?_ ?_|exact fun _ _ _ _ => Eq.refl _|refine cellJ (fun _ _ => ?_)|(refine cellB ?_; (conv => whnf); refine And.intro ?_ ?_)|exact zV|fail))) <;> (try conv => whnf)))
      exact (if_pos (decide_eq_true (by assumption))).symm
    · refine ⟨i + 1, by omega, by omega, ?_⟩
      ((try conv => whnf); refine ⟨rfl, by rfl, ?_, ?_⟩ <;> ((repeat' ((try conv => whnf); (first|exact zU|refine And.intro ?_ ?_|exact fun _ _ _ _ => Eq.refl _|refine cellJ (fun _ _ => ?_)|(refine cellB ?_; (conv => whnf); refine And.intro ?_ ?_)|exact zV|fail))) <;> (try conv => whnf)))
      exact (if_neg (fun hc => by have := of_decide_eq_true hc; contradiction)).symm
    · refine ⟨[(16, nm 7)], rfl, ?_, ?_, ?_, fun _ => ?_⟩
      · ((try conv => whnf); refine ⟨rfl, by rfl, ?_, ?_⟩ <;> ((repeat' ((try conv => whnf); (first|exact zU|refine And.intro ?_ ?_|exact fun _ _ _ _ => Eq.refl _|refine cellJ (fun _ _ => ?_)|(refine cellB ?_; (conv => whnf); refine And.intro ?_ ?_)|exact zV|fail))) <;> (try conv => whnf)))
        have e : i = g.2.1.length := by omega
        rw [e]; rfl
      all_goals ((repeat' ((try conv => whnf); (first|exact zU|refine And.intro ?_ ?_|exact fun _ _ _ _ => Eq.refl _|refine cellJ (fun _ _ => ?_)|(refine cellB ?_; (conv => whnf); refine And.intro ?_ ?_)|exact zV|fail))) <;> (try conv => whnf))
theorem sTo_fn (g : Gr) (a : Int) (h : g.2.1.length ≤ 1048576) : Fn Tryz.prog 110 true (.cons (GrA g) (.cons (.I a) .nil)) [] (.os (rt 16)) [(16, .row 3 (.ints .i64 (eTo g a)))] := by
  (refine Fn_of tysOk Tryz.func110 rfl rfl (by simp [AV.len, Tryz.f110]) ⟨?_⟩; conv => whnf)
  refine loopI tysOk [nm 7] (fun i : Nat => [(5, .os (rt (nm 7))), (6, .I i)]) (fun i => [(nm 7, some (.row 3 (.ints .i64 (idxs (toB a) g.2.1 i))))]) (· ≤ g.2.1.length) (fun i => g.2.1.length - i) 0 (Nat.zero_le _) ?_ ?_
  · ((try conv => whnf); refine ⟨rfl, by rfl, ?_, ?_⟩ <;> ((repeat' ((try conv => whnf); (first|exact zU|refine And.intro ?_ ?_|exact fun _ _ _ _ => Eq.refl _|refine cellJ (fun _ _ => ?_)|(refine cellB ?_; (conv => whnf); refine And.intro ?_ ?_)|exact zV|fail))) <;> (try conv => whnf)))
  · intro i hi
    have hl := idxs_len (φ := toB a) (es := g.2.1) (n := i)
    (repeat' first | (refine zK (fun hs => ?_) (fun hs => ?_) <;> ((try simp only [Ct.len] at hs); revert hs; intro _; conv => whnf)) | (refine zI (fun _ => ?_) (fun _ => ?_)<;> conv => whnf)|((first|refine zA ?_|refine zB ?_|refine zC ?_|refine zD ?_|refine zE ?_|refine zF ?_|refine zG ?_|fail); conv => whnf)|(refine zJ (fun _ => ?_) ?_<;> conv => whnf)|((first | refine condN Tryz.underlying4 (Nx.mk ?_) | refine zH ?_ | refine Nx.mk ?_); conv => whnf))
    · refine ⟨i + 1, by omega, by omega, ?_⟩
      ((try conv => whnf); refine ⟨rfl, by rfl, ?_, ?_⟩ <;> ((repeat' ((try conv => whnf); (first|exact zU|refine And.intro ?_ ?_|exact fun _ _ _ _ => Eq.refl _|refine cellJ (fun _ _ => ?_)|(refine cellB ?_; (conv => whnf); refine And.intro ?_ ?_)|exact zV|fail))) <;> (try conv => whnf)))
      exact (if_pos (decide_eq_true (by assumption))).symm
    · refine ⟨i + 1, by omega, by omega, ?_⟩
      ((try conv => whnf); refine ⟨rfl, by rfl, ?_, ?_⟩ <;> ((repeat' ((try conv => whnf); (first|exact zU|refine And.intro ?_ ?_|exact fun _ _ _ _ => Eq.refl _|refine cellJ (fun _ _ => ?_)|(refine cellB ?_; (conv => whnf); refine And.intro ?_ ?_)|exact zV|fail))) <;> (try conv => whnf)))
      exact (if_neg (fun hc => by have := of_decide_eq_true hc; contradiction)).symm
    · refine ⟨[(16, nm 7)], rfl, ?_, ?_, ?_, fun _ => ?_⟩
      · ((try conv => whnf); refine ⟨rfl, by rfl, ?_, ?_⟩ <;> ((repeat' ((try conv => whnf); (first|exact zU|refine And.intro ?_ ?_|exact fun _ _ _ _ => Eq.refl _|refine cellJ (fun _ _ => ?_)|(refine cellB ?_; (conv => whnf); refine And.intro ?_ ?_)|exact zV|fail))) <;> (try conv => whnf)))
        have e : i = g.2.1.length := by omega
        rw [e]; rfl
      all_goals ((repeat' ((try conv => whnf); (first|exact zU|refine And.intro ?_ ?_|exact fun _ _ _ _ => Eq.refl _|refine cellJ (fun _ _ => ?_)|(refine cellB ?_; (conv => whnf); refine And.intro ?_ ?_)|exact zV|fail))) <;> (try conv => whnf))
end Go.Proofs.YtbepgedckfhifaaGreat
