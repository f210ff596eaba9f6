/-
  Slices of integers: toIntS, eqIntS, szIntS.
-/
import Derived.Test.YtbepgedckfhifaaGreatFiVC
import Derived.Test.YtbepgedckfhifaaGreatFiTys
namespace Go.Proofs.YtbepgedckfhifaaGreat
set_option linter.unusedVariables false
set_option linter.unusedSimpArgs false
set_option maxRecDepth 100000
set_option maxHeartbeats 4000000
attribute [local irreducible] Fn
def cellsA {X : Type} [Inhabited X] (A : X → AV) (xs : List X) (k j : Nat) : AV := (A (xs.getD k default)).nth j
theorem toIntS_fn (xs : List Int) (h : xs.length ≤ 1048576) : Fn Tryz.prog 25 true (.cons (.ri false .i64 xs) .nil) [] (.os (rt 16)) [(16, .row 3 (.ints .i64 xs))] := by
  refine Fn_of tysOk Tryz.func25 rfl rfl (by simp [AV.len, Tryz.f25]) ⟨?_⟩
  conv => whnf
  (repeat' first | (refine zK (fun hs => ?_) (fun hs => ?_) <;> ((try simp only [Ct.len] at hs); revert hs; intro _; conv => whnf)) | (refine zI (fun _ => ?_) (fun _ => ?_)<;> conv => whnf)|((first|refine zA ?_|refine zB ?_|refine zC ?_|refine zD ?_|refine zE ?_|refine zF ?_|refine zG ?_|fail); conv => whnf)|(refine zJ (fun _ => ?_) ?_<;> conv => whnf)|((first | refine condN Tryz.underlying4 (Nx.mk ?_) | refine zH ?_ | refine Nx.mk ?_); conv => whnf))
  refine loopI tysOk [] (fun i : Nat => [(4, .I i)]) (fun i => [(nm 7, some (.row 3 (.ints .i64 (xs.take i ++ List.replicate (xs.length - i) 0))))]) (· ≤ xs.length) (fun i => xs.length - i) 0 (Nat.zero_le _) ?_ ?_
  · ((try conv => whnf); refine ⟨rfl, by rfl, ?_, ?_⟩ <;> ((repeat' ((try conv => whnf); (first|exact zU|refine And.intro ?_ ?_|exact fun _ _ _ _ => Eq.refl _|refine cellJ (fun _ _ => ?_)|(refine cellB ?_; (conv => whnf); refine And.intro ?_ ?_)|exact zV|fail))) <;> (try conv => whnf)))
  · intro i hi
    (repeat' first | (refine zK (fun hs => ?_) (fun hs => ?_) <;> ((try simp only [Ct.len] at hs); revert hs; intro _; conv => whnf)) | (refine zI (fun _ => ?_) (fun _ => ?_)<;> conv => whnf)|((first|refine zA ?_|refine zB ?_|refine zC ?_|refine zD ?_|refine zE ?_|refine zF ?_|refine zG ?_|fail); conv => whnf)|(refine zJ (fun _ => ?_) ?_<;> conv => whnf)|((first | refine condN Tryz.underlying4 (Nx.mk ?_) | refine zH ?_ | refine Nx.mk ?_); conv => whnf))
    · refine ⟨i + 1, by omega, by omega, ?_⟩
      ((try conv => whnf); refine ⟨rfl, by rfl, ?_, ?_⟩ <;> ((repeat' ((try conv => whnf); (first|exact zU|refine And.intro ?_ ?_|exact fun _ _ _ _ => Eq.refl _|refine cellJ (fun _ _ => ?_)|(refine cellB ?_; (conv => whnf); refine And.intro ?_ ?_)|exact zV|fail))) <;> (try conv => whnf)))
      rename_i h1
      have h1 : i < xs.length := by omega
      obtain ⟨m, hm⟩ : ∃ m, xs.length - i = m + 1 := ⟨xs.length - i - 1, by omega⟩
      have hm' : xs.length - (i + 1) = m := by omega
      rw [hm, hm', List.replicate_succ, List.set_append_right _ _ (by simp; omega), List.length_take, Nat.min_eq_left (by omega), Nat.sub_self, List.set_cons_zero, List.getD_eq_getElem?_getD, List.getElem?_eq_getElem h1]
      have e9 : xs.take (i + 1) = xs.take i ++ [xs[i]] := by rw [List.take_add_one, List.getElem?_eq_getElem h1]; rfl
      rw [e9, List.append_assoc]; rfl
    · refine ⟨[(16, nm 7)], rfl, ?_, ?_, ?_, fun _ => ?_⟩
      · ((try conv => whnf); refine ⟨rfl, by rfl, ?_, ?_⟩ <;> ((repeat' ((try conv => whnf); (first|exact zU|refine And.intro ?_ ?_|exact fun _ _ _ _ => Eq.refl _|refine cellJ (fun _ _ => ?_)|(refine cellB ?_; (conv => whnf); refine And.intro ?_ ?_)|exact zV|fail))) <;> (try conv => whnf)))
        have e : i = xs.length := by omega
        subst e
        simp
      · ((repeat' ((try conv => whnf); (first|exact zU|refine And.intro ?_ ?_|exact fun _ _ _ _ => Eq.refl _|refine cellJ (fun _ _ => ?_)|(refine cellB ?_; (conv => whnf); refine And.intro ?_ ?_)|exact zV|fail))) <;> (try conv => whnf))
      · ((repeat' ((try conv => whnf); (first|exact zU|refine And.intro ?_ ?_|exact fun _ _ _ _ => Eq.refl _|refine cellJ (fun _ _ => ?_)|(refine cellB ?_; (conv => whnf); refine And.intro ?_ ?_)|exact zV|fail))) <;> (try conv => whnf))
      · refine ⟨trivial, fun k j _ _ => trivial, trivial⟩
theorem eqIntS_fn (xs ys : List Int) (h : xs.length ≤ 1048576) : Fn Tryz.prog 13 true (.cons (.ri false .i64 xs) (.cons (.ri false .i64 ys) .nil)) [] (.b (decide (xs = ys))) [] := by
  refine Fn_of tysOk Tryz.func13 rfl rfl (by simp [AV.len, Tryz.f13]) ⟨?_⟩
  conv => whnf
  (repeat' first | (refine zK (fun hs => ?_) (fun hs => ?_) <;> ((try simp only [Ct.len] at hs); revert hs; intro _; conv => whnf)) | (refine zI (fun _ => ?_) (fun _ => ?_)<;> conv => whnf)|((first|refine zA ?_|refine zB ?_|refine zC ?_|refine zD ?_|refine zE ?_|refine zF ?_|refine zG ?_|fail); conv => whnf)|(refine zJ (fun _ => ?_) ?_<;> conv => whnf)|((first | refine condN Tryz.underlying4 (Nx.mk ?_) | refine zH ?_ | refine Nx.mk ?_); conv => whnf))
  · (refine ⟨[], rfl, ⟨rfl, rfl, trivial, trivial⟩, ?_, ⟨?_, trivial⟩, fun _ => ⟨?_, trivial⟩⟩ <;> ((repeat' ((try conv => whnf); (first|exact zU|refine And.intro ?_ ?_|exact fun _ _ _ _ => Eq.refl _|refine cellJ (fun _ _ => ?_)|(refine cellB ?_; (conv => whnf); refine And.intro ?_ ?_)|exact zV|fail))) <;> (try conv => whnf)))
    rename_i h1
    have : xs ≠ ys := fun e => h1 (by rw [e])
    simp [this]
  rename_i hl
  have hl : xs.length = ys.length := by omega
  refine loopI tysOk [] (fun i : Nat => [(5, .I i)]) (fun i => []) (fun i => i ≤ xs.length ∧ ∀ k, k < i → xs.getD k 0 = ys.getD k 0) (fun i => xs.length - i) 0 ⟨Nat.zero_le _, fun k hk => absurd hk (by omega)⟩ ?_ ?_
  · ((try conv => whnf); refine ⟨rfl, by rfl, ?_, ?_⟩ <;> ((repeat' ((try conv => whnf); (first|exact zU|refine And.intro ?_ ?_|exact fun _ _ _ _ => Eq.refl _|refine cellJ (fun _ _ => ?_)|(refine cellB ?_; (conv => whnf); refine And.intro ?_ ?_)|exact zV|fail))) <;> (try conv => whnf)))
  · rintro i ⟨hi, hall⟩
    (repeat' first | (refine zK (fun hs => ?_) (fun hs => ?_) <;> ((try simp only [Ct.len] at hs); revert hs; intro _; conv => whnf)) | (refine zI (fun _ => ?_) (fun _ => ?_)<;> conv => whnf)|((first|refine zA ?_|refine zB ?_|refine zC ?_|refine zD ?_|refine zE ?_|refine zF ?_|refine zG ?_|fail); conv => whnf)|(refine zJ (fun _ => ?_) ?_<;> conv => whnf)|((first | refine condN Tryz.underlying4 (Nx.mk ?_) | refine zH ?_ | refine Nx.mk ?_); conv => whnf))
    · (refine VC_draw (sf := []) tysOk (by kernel_rfl) (by kernel_rfl) (Nx.mk ?_); conv => whnf)
      have h9 : i < ys.length := by omega
      (repeat' first | (refine zK (fun hs => ?_) (fun hs => ?_) <;> ((try simp only [Ct.len] at hs); revert hs; intro _; conv => whnf)) | (refine zI (fun _ => ?_) (fun _ => ?_)<;> conv => whnf)|((first|refine zA ?_|refine zB ?_|refine zC ?_|refine zD ?_|refine zE ?_|refine zF ?_|refine zG ?_|fail); conv => whnf)|(refine zJ (fun _ => ?_) ?_<;> conv => whnf)|((first | refine condN Tryz.underlying4 (Nx.mk ?_) | refine zH ?_ | refine Nx.mk ?_); conv => whnf))
      · (refine ⟨[], rfl, ⟨rfl, rfl, trivial, trivial⟩, ?_, ⟨?_, trivial⟩, fun _ => ⟨?_, trivial⟩⟩ <;> ((repeat' ((try conv => whnf); (first|exact zU|refine And.intro ?_ ?_|exact fun _ _ _ _ => Eq.refl _|refine cellJ (fun _ _ => ?_)|(refine cellB ?_; (conv => whnf); refine And.intro ?_ ?_)|exact zV|fail))) <;> (try conv => whnf)))
        rename_i h1
        have : xs ≠ ys := fun e => h1 (by rw [e])
        simp [this]
      · rename_i h1
        have h1 : xs.getD i 0 = ys.getD i 0 := by simpa using h1
        refine ⟨i + 1, ⟨by omega, fun k hk => ?_⟩, by omega, ?_⟩
        · by_cases e : k = i
          · rw [e]; exact h1
          · exact hall k (by omega)
        ((try conv => whnf); refine ⟨rfl, by rfl, ?_, ?_⟩ <;> ((repeat' ((try conv => whnf); (first|exact zU|refine And.intro ?_ ?_|exact fun _ _ _ _ => Eq.refl _|refine cellJ (fun _ _ => ?_)|(refine cellB ?_; (conv => whnf); refine And.intro ?_ ?_)|exact zV|fail))) <;> (try conv => whnf)))
    · (refine ⟨[], rfl, ⟨rfl, rfl, trivial, trivial⟩, ?_, ⟨?_, trivial⟩, fun _ => ⟨?_, trivial⟩⟩ <;> ((repeat' ((try conv => whnf); (first|exact zU|refine And.intro ?_ ?_|exact fun _ _ _ _ => Eq.refl _|refine cellJ (fun _ _ => ?_)|(refine cellB ?_; (conv => whnf); refine And.intro ?_ ?_)|exact zV|fail))) <;> (try conv => whnf)))
      have : xs = ys := ext_getD (z := 0) hl (fun k hk => hall k (by omega))
      simp [this]
end Go.Proofs.YtbepgedckfhifaaGreat
