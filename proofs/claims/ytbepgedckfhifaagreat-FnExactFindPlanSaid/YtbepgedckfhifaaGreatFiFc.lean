/-
  Marks written into slices of integers, and found again.
-/
import Derived.Test.YtbepgedckfhifaaGreatFiFb
namespace Go.Proofs.YtbepgedckfhifaaGreat
set_option linter.unusedVariables false
set_option linter.unusedSimpArgs false
set_option maxRecDepth 100000
set_option maxHeartbeats 4000000
attribute [local irreducible] Fn
def marks (k : Int) (n : Nat) : List Int := (List.range n).map fun i : Nat => k + (i : Int)
theorem marks_len (k : Int) (n : Nat) : (marks k n).length = n := by simp [marks]
theorem marks_succ (k : Int) (n : Nat) : marks k (n + 1) = marks k n ++ [k + (n : Int)] := by simp [marks, List.range_succ]
theorem marks_getD {k : Int} {n i : Nat} (h : i < n) : (marks k n).getD i 0 = k + (i : Int) := by simp [marks, List.getD_eq_getElem?_getD, h]
theorem marks_set {k : Int} {xs : List Int} {i : Nat} (h : i < xs.length) : (marks k i ++ xs.drop i).set i (k + (i : Int)) = marks k (i + 1) ++ xs.drop (i + 1) := by
  rw [List.set_append_right _ _ (by simp [marks]), marks_len, Nat.sub_self, List.drop_eq_getElem_cons h, List.set_cons_zero, marks_succ, List.append_assoc]
  rfl
theorem markIntS_fn (xs : List Int) (k : Int) (h0 : 0 ≤ k) (h1 : k ≤ 1099511627776) (h : xs.length ≤ 4194304) : Fn Tryz.prog 20 true (.cons (.os (rt 0)) (.cons (.I k) .nil)) [(0, .row 3 (.ints .i64 xs))] (.I (k + xs.length)) [(0, .row 3 (.ints .i64 (marks k xs.length)))] := by
  (refine Fn_of tysOk Tryz.func20 rfl rfl (by simp [AV.len, Tryz.f20]) ⟨?_⟩; conv => whnf)
  (repeat' first | (refine zK (fun hs => ?_) (fun hs => ?_) <;> ((try simp only [Ct.len] at hs); revert hs; intro _; conv => whnf)) | (refine zI (fun _ => ?_) (fun _ => ?_)<;> conv => whnf)|((first|refine zA ?_|refine zB ?_|refine zC ?_|refine zD ?_|refine zE ?_|refine zF ?_|refine zG ?_|fail); conv => whnf)|(refine zJ (fun _ => ?_) ?_<;> conv => whnf)|((first | refine condN Tryz.underlying4 (Nx.mk ?_) | refine zH ?_ | refine Nx.mk ?_); conv => whnf))
  refine loopI tysOk [] (fun i : Nat => [(1, .I (k + (i : Int))), (5, .I i)]) (fun i => [(0, some (.row 3 (.ints .i64 (marks k i ++ xs.drop i))))]) (· ≤ xs.length) (fun i => xs.length - i) 0 (Nat.zero_le _) ?_ ?_
  · ((try conv => whnf); refine ⟨rfl, by rfl, ?_, ?_⟩ <;> ((repeat' ((try conv => whnf); (first|exact zU|refine And.intro ?_ ?_|exact fun _ _ _ _ => Eq.refl _|refine cellJ (fun _ _ => ?_)|(refine cellB ?_; (conv => whnf); refine And.intro ?_ ?_)|exact zV|fail))) <;> (try conv => whnf)))
    all_goals simp
  · intro i hi
    have hl : (marks k i ++ xs.drop i).length = xs.length := by simp [marks_len]; omega
    (repeat' first | (refine zK (fun hs => ?_) (fun hs => ?_) <;> ((try simp only [Ct.len] at hs); revert hs; intro _; conv => whnf)) | (refine zI (fun _ => ?_) (fun _ => ?_)<;> conv => whnf)|((first|refine zA ?_|refine zB ?_|refine zC ?_|refine zD ?_|refine zE ?_|refine zF ?_|refine zG ?_|fail); conv => whnf)|(refine zJ (fun _ => ?_) ?_<;> conv => whnf)|((first | refine condN Tryz.underlying4 (Nx.mk ?_) | refine zH ?_ | refine Nx.mk ?_); conv => whnf))
    · refine ⟨i + 1, by omega, by omega, ?_⟩
      ((try conv => whnf); refine ⟨rfl, by rfl, ?_, ?_⟩ <;> ((repeat' ((try conv => whnf); (first|exact zU|refine And.intro ?_ ?_|exact fun _ _ _ _ => Eq.refl _|refine cellJ (fun _ _ => ?_)|(refine cellB ?_; (conv => whnf); refine And.intro ?_ ?_)|exact zV|fail))) <;> (try conv => whnf)))
      · omega
      · exact marks_set (by omega)
    · have e : i = xs.length := by omega
      subst e
      refine ⟨[], rfl, ?_, ?_, ?_, fun _ => ?_⟩
      · ((try conv => whnf); refine ⟨rfl, by rfl, ?_, ?_⟩ <;> ((repeat' ((try conv => whnf); (first|exact zU|refine And.intro ?_ ?_|exact fun _ _ _ _ => Eq.refl _|refine cellJ (fun _ _ => ?_)|(refine cellB ?_; (conv => whnf); refine And.intro ?_ ?_)|exact zV|fail))) <;> (try conv => whnf)))
        simp
      all_goals ((repeat' ((try conv => whnf); (first|exact zU|refine And.intro ?_ ?_|exact fun _ _ _ _ => Eq.refl _|refine cellJ (fun _ _ => ?_)|(refine cellB ?_; (conv => whnf); refine And.intro ?_ ?_)|exact zV|fail))) <;> (try conv => whnf))
theorem heldIntS_fn (k : Int) (n : Nat) (h0 : 0 ≤ k) (h1 : k ≤ 1099511627776) (h : n ≤ 4194304) : Fn Tryz.prog 21 true (.cons (.ri false .i64 (marks k n)) (.cons (.I k) .nil)) [] (.I (k + n)) [] := by
  (refine Fn_of tysOk Tryz.func21 rfl rfl (by simp [AV.len, Tryz.f21]) ⟨?_⟩; conv => whnf)
  have hl := marks_len k n
  (repeat' first | (refine zK (fun hs => ?_) (fun hs => ?_) <;> ((try simp only [Ct.len] at hs); revert hs; intro _; conv => whnf)) | (refine zI (fun _ => ?_) (fun _ => ?_)<;> conv => whnf)|((first|refine zA ?_|refine zB ?_|refine zC ?_|refine zD ?_|refine zE ?_|refine zF ?_|refine zG ?_|fail); conv => whnf)|(refine zJ (fun _ => ?_) ?_<;> conv => whnf)|((first | refine condN Tryz.underlying4 (Nx.mk ?_) | refine zH ?_ | refine Nx.mk ?_); conv => whnf))
  refine loopI tysOk [] (fun i : Nat => [(1, .I (k + (i : Int))), (5, .I i)]) (fun i => []) (· ≤ n) (fun i => n - i) 0 (Nat.zero_le _) ?_ ?_
  · ((try conv => whnf); refine ⟨rfl, by rfl, ?_, ?_⟩ <;> ((repeat' ((try conv => whnf); (first|exact zU|refine And.intro ?_ ?_|exact fun _ _ _ _ => Eq.refl _|refine cellJ (fun _ _ => ?_)|(refine cellB ?_; (conv => whnf); refine And.intro ?_ ?_)|exact zV|fail))) <;> (try conv => whnf)))
    simp
  · intro i hi
    (repeat' first | (refine zK (fun hs => ?_) (fun hs => ?_) <;> ((try simp only [Ct.len] at hs); revert hs; intro _; conv => whnf)) | (refine zI (fun _ => ?_) (fun _ => ?_)<;> conv => whnf)|((first|refine zA ?_|refine zB ?_|refine zC ?_|refine zD ?_|refine zE ?_|refine zF ?_|refine zG ?_|fail); conv => whnf)|(refine zJ (fun _ => ?_) ?_<;> conv => whnf)|((first | refine condN Tryz.underlying4 (Nx.mk ?_) | refine zH ?_ | refine Nx.mk ?_); conv => whnf))
    · (refine ⟨[], rfl, ⟨rfl, rfl, trivial, trivial⟩, ?_, ⟨?_, trivial⟩, fun _ => ⟨?_, trivial⟩⟩ <;> ((repeat' ((try conv => whnf); (first|exact zU|refine And.intro ?_ ?_|exact fun _ _ _ _ => Eq.refl _|refine cellJ (fun _ _ => ?_)|(refine cellB ?_; (conv => whnf); refine And.intro ?_ ?_)|exact zV|fail))) <;> (try conv => whnf)))
      rename_i h1 h2
      exact absurd (marks_getD (by omega)) h2
    · refine ⟨i + 1, by omega, by omega, ?_⟩
      ((try conv => whnf); refine ⟨rfl, by rfl, ?_, ?_⟩ <;> ((repeat' ((try conv => whnf); (first|exact zU|refine And.intro ?_ ?_|exact fun _ _ _ _ => Eq.refl _|refine cellJ (fun _ _ => ?_)|(refine cellB ?_; (conv => whnf); refine And.intro ?_ ?_)|exact zV|fail))) <;> (try conv => whnf)))
      omega
    · (refine ⟨[], rfl, ⟨rfl, rfl, trivial, trivial⟩, ?_, ⟨?_, trivial⟩, fun _ => ⟨?_, trivial⟩⟩ <;> ((repeat' ((try conv => whnf); (first|exact zU|refine And.intro ?_ ?_|exact fun _ _ _ _ => Eq.refl _|refine cellJ (fun _ _ => ?_)|(refine cellB ?_; (conv => whnf); refine And.intro ?_ ?_)|exact zV|fail))) <;> (try conv => whnf)))
      omega
def mkE (k : Int) (i : Nat) : Edg := (k + (3 * i : Nat), k + (3 * i : Nat) + 1, k + (3 * i : Nat) + 1 + 1, ())
def mkEs (k : Int) (xs : List Edg) (i j : Nat) : Edg := if j < i then mkE k j else xs.getD j default
theorem mkEs_zero {k : Int} {xs : List Edg} {j : Nat} : mkEs k xs 0 j = xs.getD j default := by simp [mkEs]
theorem mkEs_self {k : Int} {xs : List Edg} {j : Nat} : mkEs k xs (j + 1) j = mkE k j := by simp [mkEs]
theorem mkEs_ne {k : Int} {xs : List Edg} {i j : Nat} (h : j ≠ i) : mkEs k xs (i + 1) j = mkEs k xs i j := by
  unfold mkEs
  by_cases h1 : j < i
  · rw [if_pos h1, if_pos (by omega)]
  · rw [if_neg h1, if_neg (by omega)]
theorem markEdgeS_fn (xs : List Edg) (k : Int) (h0 : 0 ≤ k) (h1 : k ≤ 1099511627776) (h : xs.length ≤ 4194304) : Fn Tryz.prog 49 true (.cons (.os (rt 0)) (.cons (.I k) .nil)) [(0, .row 109 (.tab xs.length 3 (cellsA EdgA xs)))] (.I (k + (3 * xs.length : Nat))) [(0, .row 109 (.tab xs.length 3 fun i j => (EdgA (mkEs k xs xs.length i)).nth j))] := by
  (refine Fn_of tysOk Tryz.func49 rfl rfl (by simp [AV.len, Tryz.f49]) ⟨?_⟩; conv => whnf)
  (repeat' first | (refine zK (fun hs => ?_) (fun hs => ?_) <;> ((try simp only [Ct.len] at hs); revert hs; intro _; conv => whnf)) | (refine zI (fun _ => ?_) (fun _ => ?_)<;> conv => whnf)|((first|refine zA ?_|refine zB ?_|refine zC ?_|refine zD ?_|refine zE ?_|refine zF ?_|refine zG ?_|fail); conv => whnf)|(refine zJ (fun _ => ?_) ?_<;> conv => whnf)|((first | refine condN Tryz.underlying4 (Nx.mk ?_) | refine zH ?_ | refine Nx.mk ?_); conv => whnf))
  refine loopI tysOk [] (fun i : Nat => [(1, .I (k + (3 * i : Nat))), (5, .I i)]) (fun i => [(0, some (.row 109 (.tab xs.length 3 fun i' j => (EdgA (mkEs k xs i i')).nth j)))]) (· ≤ xs.length) (fun i => xs.length - i) 0 (Nat.zero_le _) ?_ ?_
  · ((try conv => whnf); refine ⟨rfl, by rfl, ?_, ?_⟩ <;> ((repeat' ((try conv => whnf); (first|exact zU|refine And.intro ?_ ?_|exact fun _ _ _ _ => Eq.refl _|refine cellJ (fun _ _ => ?_)|(refine cellB ?_; (conv => whnf); refine And.intro ?_ ?_)|exact zV|fail))) <;> (try conv => whnf)))
    all_goals try simp only [mkEs_zero]
    · omega
    all_goals ((repeat' ((try conv => whnf); (first|exact zU|refine And.intro ?_ ?_|exact fun _ _ _ _ => Eq.refl _|refine cellJ (fun _ _ => ?_)|(refine cellB ?_; (conv => whnf); refine And.intro ?_ ?_)|exact zV|fail))) <;> (try conv => whnf))
  · intro i hi
    (repeat' first | (refine zK (fun hs => ?_) (fun hs => ?_) <;> ((try simp only [Ct.len] at hs); revert hs; intro _; conv => whnf)) | (refine zI (fun _ => ?_) (fun _ => ?_)<;> conv => whnf)|((first|refine zA ?_|refine zB ?_|refine zC ?_|refine zD ?_|refine zE ?_|refine zF ?_|refine zG ?_|fail); conv => whnf)|(refine zJ (fun _ => ?_) ?_<;> conv => whnf)|((first | refine condN Tryz.underlying4 (Nx.mk ?_) | refine zH ?_ | refine Nx.mk ?_); conv => whnf))
    · refine ⟨i + 1, by omega, by omega, ?_⟩
      ((try conv => whnf); refine ⟨rfl, by rfl, ?_, ?_⟩ <;> ((repeat' ((try conv => whnf); (first|exact zU|refine And.intro ?_ ?_|exact fun _ _ _ _ => Eq.refl _|refine cellJ (fun _ _ => ?_)|(refine cellB ?_; (conv => whnf); refine And.intro ?_ ?_)|exact zV|fail))) <;> (try conv => whnf)))
      · omega
      all_goals (refine avle_int (tab_upd (fun e => ?_) (fun e => ?_)) <;> first | (subst e; rw [mkEs_self]; rfl) | (rw [mkEs_ne e]; rfl))
    · have e : i = xs.length := by omega
      subst e
      refine ⟨[], rfl, ?_, ?_, ?_, fun _ => ?_⟩
      · ((try conv => whnf); refine ⟨rfl, by rfl, ?_, ?_⟩ <;> ((repeat' ((try conv => whnf); (first|exact zU|refine And.intro ?_ ?_|exact fun _ _ _ _ => Eq.refl _|refine cellJ (fun _ _ => ?_)|(refine cellB ?_; (conv => whnf); refine And.intro ?_ ?_)|exact zV|fail))) <;> (try conv => whnf)))
      all_goals ((repeat' ((try conv => whnf); (first|exact zU|refine And.intro ?_ ?_|exact fun _ _ _ _ => Eq.refl _|refine cellJ (fun _ _ => ?_)|(refine cellB ?_; (conv => whnf); refine And.intro ?_ ?_)|exact zV|fail))) <;> (try conv => whnf))
end Go.Proofs.YtbepgedckfhifaaGreat
