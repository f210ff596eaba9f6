/-
  Packets on links marked.
-/
import Derived.Test.YtbepgedckfhifaaGreatSuGl
namespace Go.Proofs.YtbepgedckfhifaaGreat
set_option linter.unusedVariables false
set_option linter.unusedSimpArgs false
set_option maxRecDepth 100000
set_option maxHeartbeats 4000000
attribute [local irreducible] Fn
def cL (x : LinkPacket_T) : Nat := 5 + x.2.2.2.1.2.1.length + x.2.2.2.1.2.2.1.length
def mkL (k : Int) (x : LinkPacket_T) : LinkPacket_T := (k, k + 1, k + 1 + 1, (k + 1 + 1 + 1, marks (k + 1 + 1 + 1 + 1) x.2.2.2.1.2.1.length, marks (k + 1 + 1 + 1 + 1 + (x.2.2.2.1.2.1.length : Nat)) x.2.2.2.1.2.2.1.length, ()), k + 1 + 1 + 1 + 1 + (x.2.2.2.1.2.1.length : Nat) + (x.2.2.2.1.2.2.1.length : Nat), ())
def mkLs (k : Int) (xs : LinkPacketS_T) (i : Nat) : LinkPacketS_T := (List.range (List.length xs)).map fun j => if j < i then mkL (k + (psum cL xs j : Nat)) (List.getD xs j default) else List.getD xs j default
theorem mkLs_at {k : Int} {xs : LinkPacketS_T} {i j : Nat} (h : j < List.length xs) : List.getD (mkLs k xs i) j default = if j < i then mkL (k + (psum cL xs j : Nat)) (List.getD xs j default) else List.getD xs j default := by
  simp only [mkLs, List.getD_eq_getElem?_getD, List.getElem?_map, List.getElem?_range h, Option.map_some, Option.getD_some]
theorem mkLs_old {k : Int} {xs : LinkPacketS_T} {i j : Nat} (h : j < List.length xs) (h2 : i ≤ j) : List.getD (mkLs k xs i) j default = List.getD xs j default := by rw [mkLs_at h, if_neg (by omega)]
theorem mkLs_new {k : Int} {xs : LinkPacketS_T} {i j : Nat} (h : j < List.length xs) (h2 : j < i) : List.getD (mkLs k xs i) j default = mkL (k + (psum cL xs j : Nat)) (List.getD xs j default) := by rw [mkLs_at h, if_pos h2]
theorem mkLs_ne {k : Int} {xs : LinkPacketS_T} {i j : Nat} (h : j < List.length xs) (h2 : j ≠ i) : List.getD (mkLs k xs (i + 1)) j default = List.getD (mkLs k xs i) j default := by
  rw [mkLs_at h, mkLs_at h]
  by_cases h1 : j < i
  · rw [if_pos h1, if_pos (by omega)]
  · rw [if_neg h1, if_neg (by omega)]
theorem szL_eq (xs : LinkPacketS_T) : sz_LinkPacketS xs = List.length xs + psum (fun x : LinkPacket_T => sz_LinkPacket x) xs (List.length xs) := rfl
theorem cL_tot {xs : LinkPacketS_T} : psum cL xs (List.length xs) ≤ 5 * sz_LinkPacketS xs := by
  rw [szL_eq]
  have : ∀ i, i ≤ List.length xs → psum cL xs i ≤ 5 * (i + psum (fun x : LinkPacket_T => sz_LinkPacket x) xs i) := by
    intro i
    induction i with
    | zero => intro _; simp [psum]
    | succ i ih =>
      intro hi
      rw [psum_succ (by omega), psum_succ (by omega)]
      have := ih (by omega)
      have h2 : cL (List.getD xs i default) ≤ 5 + 5 * sz_LinkPacket (List.getD xs i default) := by
        show 5 + _ + _ ≤ 5 + 5 * (_ + _)
        omega
      omega
  exact this _ (Nat.le_refl _)
attribute [local irreducible] mkLs
set_option maxHeartbeats 60000000 in
theorem markLinkPacketS_fn (xs : LinkPacketS_T) (k : Int) (h0 : 0 ≤ k) (h1 : k ≤ 8388608) (h : sz_LinkPacketS xs ≤ 1048576) : Fn Tryz.prog 19 true (.cons (.os (rt 0)) (.cons (.I k) .nil)) [(0, .row 74 (.tab (List.length xs) 7 (cellsA LinkPacket_O xs)))] (.I (k + (psum cL xs (List.length xs) : Nat))) [(0, .row 74 (.tab (List.length xs) 7 (cellsA LinkPacket_O (mkLs k xs (List.length xs)))))] := by
  have htt := cL_tot (xs := xs)
  have hxl : List.length xs ≤ 1048576 := by rw [szL_eq] at h; omega
  (refine Fn_of tysOk Tryz.func19 rfl rfl (by simp [AV.len, Tryz.f19]) ⟨?_⟩; conv => whnf)
  refine loopI tysOk [] (fun i : Nat => [(5, .I i), (1, .I (k + (psum cL xs i : Nat)))]) (fun i => [(0, some (.row 74 (.tab (List.length xs) 7 (cellsA LinkPacket_O (mkLs k xs i)))))]) (fun i => i ≤ List.length xs) (fun i => List.length xs - i) 0 (Nat.zero_le _) ?_ ?_
  · ((try conv => whnf); refine ⟨rfl, by rfl, ?_, ?_⟩ <;> ((repeat' ((try conv => whnf); (first | exact zV | refine And.intro ?_ ?_ | refine cellJ (fun _ _ => ?_) | (refine cellB ?_; (conv => whnf); refine And.intro ?_ ?_) | fail))) <;> (try conv => whnf)))
    · simp [psum]
    all_goals (rw [mkLs_old (by assumption) (by omega)])
  · intro i hi
    have hq := psum_le (sz := cL) (xs := xs) (i := i) (j := List.length xs) (by omega) (Nat.le_refl _)
    by_cases hi' : i < List.length xs
    · have hp : psum cL xs (i + 1) = psum cL xs i + cL (List.getD xs i default) := psum_succ hi'
      have hcp : cL (List.getD xs i default) = 5 + (List.getD xs i default).2.2.2.1.2.1.length + (List.getD xs i default).2.2.2.1.2.2.1.length := rfl
      have hq2 := psum_le (sz := cL) (xs := xs) (i := i + 1) (j := List.length xs) (by omega) (Nat.le_refl _)
      have ho := mkLs_old (k := k) (i := i) hi' (Nat.le_refl _)
      have hn := mkLs_new (k := k) (i := i + 1) hi' (by omega)
      have ht : (List.getD xs i default).2.2.2.1.2.1.length + (List.getD xs i default).2.2.2.1.2.2.1.length ≤ sz_LinkPacketS xs := tot_at (sz := fun x : LinkPacket_T => sz_LinkPacket x) hi'
      have hm1 := markIntS_fn (List.getD (mkLs k xs i) i default).2.2.2.1.2.1 (k + (psum cL xs i : Nat) + 1 + 1 + 1 + 1) (by omega) (by omega) (by rw [ho]; omega)
      have hm2 := markIntS_fn (List.getD (mkLs k xs i) i default).2.2.2.1.2.2.1 (k + (psum cL xs i : Nat) + 1 + 1 + 1 + 1 + (List.getD xs i default).2.2.2.1.2.1.length) (by omega) (by omega) (by rw [ho]; omega)
      rw [show (List.getD (mkLs k xs i) i default).2.2.2.1.2.1.length = (List.getD xs i default).2.2.2.1.2.1.length by rw [ho]] at hm1
      rw [show (List.getD (mkLs k xs i) i default).2.2.2.1.2.2.1.length = (List.getD xs i default).2.2.2.1.2.2.1.length by rw [ho]] at hm2
      (repeat' first | (refine splitD (fun hs => Nx.mk ?_) (fun hs => Nx.mk ?_) <;> ((try simp only [Ct.len] at hs); revert hs; intro _; conv => whnf)) | (refine splitB (fun _ => Nx.mk ?_) (fun _ => Nx.mk ?_) <;> conv => whnf) | ((first | refine zA ?_ | refine zB ?_ | refine zC ?_ | refine zD ?_ | refine zE ?_ | refine zF ?_ | refine zG ?_ | fail); conv => whnf)|(refine nilQ (fun _ => Nx.mk ?_) (Nx.mk ?_) <;> conv => whnf) | ((first | refine condN Tryz.underlying4 (Nx.mk ?_) | refine zH ?_ | refine Nx.mk ?_); conv => whnf))
      (all_goals try first | contradiction | (exfalso; omega))
      refine ⟨_, [(rt 0).kid i 4], _, _, _, _, hm1, rfl, ?_, ?_, Nx.mk ?_⟩
      · conv => whnf
        refine ⟨rfl, ⟨_, at_kid (N := rt 0) ⟨_, Eq.refl _, Eq.refl _⟩ hi' (Nat.le_of_ble_eq_true (Eq.refl true)) (Eq.refl _)⟩, ?_, trivial⟩
        ((repeat' ((try conv => whnf); (first | exact zV | refine And.intro ?_ ?_ | refine cellJ (fun _ _ => ?_) | (refine cellB ?_; (conv => whnf); refine And.intro ?_ ?_) | fail))) <;> (try conv => whnf))
      · ((repeat' ((try conv => whnf); (first | exact zV | refine And.intro ?_ ?_ | refine cellJ (fun _ _ => ?_) | (refine cellB ?_; (conv => whnf); refine And.intro ?_ ?_) | fail))) <;> (try conv => whnf))
      conv => whnf
      (repeat' first | (refine splitD (fun hs => Nx.mk ?_) (fun hs => Nx.mk ?_) <;> ((try simp only [Ct.len] at hs); revert hs; intro _; conv => whnf)) | (refine splitB (fun _ => Nx.mk ?_) (fun _ => Nx.mk ?_) <;> conv => whnf) | ((first | refine zA ?_ | refine zB ?_ | refine zC ?_ | refine zD ?_ | refine zE ?_ | refine zF ?_ | refine zG ?_ | fail); conv => whnf)|(refine nilQ (fun _ => Nx.mk ?_) (Nx.mk ?_) <;> conv => whnf) | ((first | refine condN Tryz.underlying4 (Nx.mk ?_) | refine zH ?_ | refine Nx.mk ?_); conv => whnf))
      (all_goals try first | contradiction | (exfalso; omega))
      refine ⟨_, [(rt 0).kid i 5], _, _, _, _, hm2, rfl, ?_, ?_, Nx.mk ?_⟩
      · conv => whnf
        refine ⟨rfl, ⟨_, at_kid (N := rt 0) ⟨_, Eq.refl _, Eq.refl _⟩ hi' (Nat.le_of_ble_eq_true (Eq.refl true)) (Eq.refl _)⟩, ?_, trivial⟩
        ((repeat' ((try conv => whnf); (first | exact zV | refine And.intro ?_ ?_ | refine cellJ (fun _ _ => ?_) | (refine cellB ?_; (conv => whnf); refine And.intro ?_ ?_) | fail))) <;> (try conv => whnf))
      · ((repeat' ((try conv => whnf); (first | exact zV | refine And.intro ?_ ?_ | refine cellJ (fun _ _ => ?_) | (refine cellB ?_; (conv => whnf); refine And.intro ?_ ?_) | fail))) <;> (try conv => whnf))
      conv => whnf
      (repeat' first | (refine splitD (fun hs => Nx.mk ?_) (fun hs => Nx.mk ?_) <;> ((try simp only [Ct.len] at hs); revert hs; intro _; conv => whnf)) | (refine splitB (fun _ => Nx.mk ?_) (fun _ => Nx.mk ?_) <;> conv => whnf) | ((first | refine zA ?_ | refine zB ?_ | refine zC ?_ | refine zD ?_ | refine zE ?_ | refine zF ?_ | refine zG ?_ | fail); conv => whnf)|(refine nilQ (fun _ => Nx.mk ?_) (Nx.mk ?_) <;> conv => whnf) | ((first | refine condN Tryz.underlying4 (Nx.mk ?_) | refine zH ?_ | refine Nx.mk ?_); conv => whnf))
      (all_goals try first | contradiction | (exfalso; omega))
      refine ⟨i + 1, by omega, by omega, ?_⟩
      ((try conv => whnf); refine ⟨rfl, by rfl, ?_, ?_⟩ <;> ((repeat' ((try conv => whnf); (first | exact zV | refine And.intro ?_ ?_ | refine cellJ (fun _ _ => ?_) | (refine cellB ?_; (conv => whnf); refine And.intro ?_ ?_) | fail))) <;> (try conv => whnf)))
      · omega
      all_goals
        rename_i j hj
        have hj : j < List.length xs := hj
        by_cases e : j = i
        · subst e
          simp only [Nat.beq_refl, cellsA, hn, ho, Ct.kill, Ct.put, Ct.cell, Bool.and_true, Bool.true_and, cond_true]
          ((repeat' ((try conv => whnf); (first | exact zV | refine And.intro ?_ ?_ | refine cellJ (fun _ _ => ?_) | (refine cellB ?_; (conv => whnf); refine And.intro ?_ ?_) | fail))) <;> (try conv => whnf))
        · simp only [beq_ne e, cellsA, mkLs_ne hj e, Ct.kill, Ct.put, Ct.cell, Bool.and_false, Bool.false_and, cond_false]
          ((repeat' ((try conv => whnf); (first | exact zV | refine And.intro ?_ ?_ | refine cellJ (fun _ _ => ?_) | (refine cellB ?_; (conv => whnf); refine And.intro ?_ ?_) | fail))) <;> (try conv => whnf))
    · obtain rfl : i = List.length xs := by omega
      (repeat' first | (refine splitD (fun hs => Nx.mk ?_) (fun hs => Nx.mk ?_) <;> ((try simp only [Ct.len] at hs); revert hs; intro _; conv => whnf)) | (refine splitB (fun _ => Nx.mk ?_) (fun _ => Nx.mk ?_) <;> conv => whnf) | ((first | refine zA ?_ | refine zB ?_ | refine zC ?_ | refine zD ?_ | refine zE ?_ | refine zF ?_ | refine zG ?_ | fail); conv => whnf)|(refine nilQ (fun _ => Nx.mk ?_) (Nx.mk ?_) <;> conv => whnf) | ((first | refine condN Tryz.underlying4 (Nx.mk ?_) | refine zH ?_ | refine Nx.mk ?_); conv => whnf))
      (all_goals try first | contradiction | (exfalso; omega))
      all_goals
        refine ⟨[], rfl, ?_, ?_, ?_, fun _ => ?_⟩
        · ((try conv => whnf); refine ⟨rfl, by rfl, ?_, ?_⟩ <;> ((repeat' ((try conv => whnf); (first | exact zV | refine And.intro ?_ ?_ | refine cellJ (fun _ _ => ?_) | (refine cellB ?_; (conv => whnf); refine And.intro ?_ ?_) | fail))) <;> (try conv => whnf)))
        all_goals ((repeat' ((try conv => whnf); (first | exact zV | refine And.intro ?_ ?_ | refine cellJ (fun _ _ => ?_) | (refine cellB ?_; (conv => whnf); refine And.intro ?_ ?_) | fail))) <;> (try conv => whnf))
end Go.Proofs.YtbepgedckfhifaaGreat
