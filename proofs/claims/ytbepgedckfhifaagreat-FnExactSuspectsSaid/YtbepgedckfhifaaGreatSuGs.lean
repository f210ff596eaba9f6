/-
  Manifests, packets checked, proofs.
-/
import Derived.Test.YtbepgedckfhifaaGreatSuGr
import Derived.Test.YtbepgedckfhifaaGreatSuFf
namespace Go.Proofs.YtbepgedckfhifaaGreat
set_option linter.unusedVariables false
set_option linter.unusedSimpArgs false
set_option maxRecDepth 100000
set_option maxHeartbeats 4000000
attribute [local irreducible] Fn
attribute [local irreducible] pw gelB vecB hkB hv chv lsig
def FmtOk (a s w : Int) : Prop := (0 ≤ a ∧ a ≤ 1000000000000) ∧ (1 ≤ s ∧ s ≤ 8) ∧ (1 ≤ w ∧ w ≤ 16)
instance (a s w : Int) : Decidable (FmtOk a s w) := inferInstanceAs (Decidable (_ ∧ _ ∧ _))
def ManC (m : Manifest_T) : Prop := (0 ≤ m.1 ∧ m.1 ≤ 7) ∧ FmtOk m.2.1 m.2.2.1 m.2.2.2.1 ∧ (m.2.2.2.2.1.length : Int) = m.2.2.1 ∧ (0 ≤ m.2.2.2.2.2.1 ∧ m.2.2.2.2.2.1 ≤ 2147483646)
open Classical in
noncomputable def manB (m : Manifest_T) : Bool := decide (ManC m ∧ AllG m.2.2.2.2.1)
theorem manB_yes {m : Manifest_T} (h : ManC m) (h2 : AllG m.2.2.2.2.1) : manB m = true := by simp [manB, h, h2]
theorem manB_no {m : Manifest_T} (h : ¬ (ManC m ∧ AllG m.2.2.2.2.1)) : manB m = false := by simp only [manB]; exact @decide_eq_false _ (_) h
noncomputable def pktB (p : CodedPacket_T) (s w : Int) : Bool := decide (FmtOk p.1 s w ∧ (p.2.1.length : Int) = s ∧ (p.2.2.1.length : Int) = w ∧ vecB p.2.1 = true ∧ vecB p.2.2.1 = true)
noncomputable def vhB (k : HashKey_T) (hs : List Int) (p : CodedPacket_T) : Bool := decide (hv k.1 p.2.2.1 ≠ 0 ∧ hv k.1 p.2.2.1 = chv hs p.2.1)
noncomputable def ckv (k : HashKey_T) (m : Manifest_T) (p : CodedPacket_T) : Int :=
  if manB m = true ∧ hkB k.1 = true ∧ m.2.2.2.1 = (k.1.length : Int) ∧ pktB p m.2.2.1 m.2.2.2.1 = true then (if p.1 = m.2.1 then (if vhB k m.2.2.2.2.1 p = true then 0 else 3) else 2) else 1
noncomputable def prfB (mk : Int) (k : HashKey_T) (m : Manifest_T) (l : LinkPacket_T) : Bool := decide (lsig mk l = true ∧ manB m = true ∧ ckv k m l.2.2.2.1 = 3)
attribute [local irreducible] manB
theorem sFmt_fn (a b c : Int) : Fn Tryz.prog 93 true (.cons (.I a) (.cons (.I b) (.cons (.I c) .nil))) [] (.b (decide (FmtOk a b c))) [] := by
  (refine Fn_of tysOk Tryz.func93 rfl rfl (by simp [AV.len, Tryz.f93]) ⟨?_⟩; conv => whnf)
  (repeat' first | ((with_reducible show ∃ _ : Bool, _); first | (refine ⟨_, [], _, [], _, _, l1In_fn _ _ _, rfl, trivial, zW, Nx.mk ?_⟩; conv => whnf))  | (refine splitD (fun hs => Nx.mk ?_) (fun hs => Nx.mk ?_) <;> ((try simp only [Ct.len] at hs); revert hs; intro _; conv => whnf)) | (refine splitB (fun _ => Nx.mk ?_) (fun _ => Nx.mk ?_) <;> conv => whnf) | ((first | refine zA ?_ | refine zB ?_ | refine zC ?_ | refine zD ?_ | refine zE ?_ | refine zF ?_ | refine zG ?_ | fail); conv => whnf)|(refine nilQ (fun _ => Nx.mk ?_) (Nx.mk ?_) <;> conv => whnf) | ((first | refine condN Tryz.underlying4 (Nx.mk ?_) | refine zH ?_ | refine Nx.mk ?_); conv => whnf))
  all_goals ((refine ⟨[], rfl, ⟨rfl, rfl, trivial, trivial⟩, ?_, ⟨?_, trivial⟩, fun _ => ⟨?_, trivial⟩⟩ <;> ((repeat' ((try conv => whnf); (first | exact zV | refine And.intro ?_ ?_ | refine cellJ (fun _ _ => ?_) | (refine cellB ?_; (conv => whnf); refine And.intro ?_ ?_) | fail))) <;> (try conv => whnf))); unfold FmtOk; (first | exact Eq.refl _ | exact decide_eq_true (by assumption) | exact decide_eq_false (by assumption) | exact (decide_eq_true (by omega)).symm | exact (decide_eq_false (by omega)).symm | exact decide_eq_true (by omega) | exact decide_eq_false (by omega)))
theorem sMan_fn (m : Manifest_T) (h : sz_Manifest m ≤ 1048576) : Fn Tryz.prog 54 true (.cons (.agg (Manifest_R m)) .nil) [] (.b (manB m)) [] := by
  have hl : m.2.2.2.2.1.length ≤ 1048576 := h
  by_cases hc : ManC m
  · obtain ⟨hc1, hc2, hc3, hc4⟩ := id hc
    have c1 := (l1In_fn m.1 0 7).tt (decide_eq_true hc1)
    have c2 := (sFmt_fn m.2.1 m.2.2.1 m.2.2.2.1).tt (decide_eq_true hc2)
    have c3 := (l1In_fn m.2.2.2.2.2.1 0 2147483646).tt (decide_eq_true hc4)
    (refine Fn_of tysOk Tryz.func54 rfl rfl (by simp [AV.len, Tryz.f54]) ⟨?_⟩; conv => whnf)
    (repeat' first | ((with_reducible show ∃ _ : Bool, _); first | (refine ⟨_, [], _, [], _, _, c1, rfl, trivial, zW, Nx.mk ?_⟩; conv => whnf)|(refine ⟨_, [], _, [], _, _, c2, rfl, trivial, zW, Nx.mk ?_⟩; conv => whnf))  | (refine splitD (fun hs => Nx.mk ?_) (fun hs => Nx.mk ?_) <;> ((try simp only [Ct.len] at hs); revert hs; intro _; conv => whnf)) | (refine splitB (fun _ => Nx.mk ?_) (fun _ => Nx.mk ?_) <;> conv => whnf) | ((first | refine zA ?_ | refine zB ?_ | refine zC ?_ | refine zD ?_ | refine zE ?_ | refine zF ?_ | refine zG ?_ | fail); conv => whnf)|(refine nilQ (fun _ => Nx.mk ?_) (Nx.mk ?_) <;> conv => whnf) | ((first | refine condN Tryz.underlying4 (Nx.mk ?_) | refine zH ?_ | refine Nx.mk ?_); conv => whnf))
    (all_goals try first | contradiction | (exfalso; omega))
    refine loopI tysOk [] (fun i : Nat => [(3, .I i)]) (fun i => []) (fun i => i ≤ m.2.2.2.2.1.length ∧ ∀ j, j < i → GEl (m.2.2.2.2.1.getD j 0)) (fun i => m.2.2.2.2.1.length - i) 0 ⟨Nat.zero_le _, fun j hj => absurd hj (by omega)⟩ ?_ ?_
    · ((try conv => whnf); refine ⟨rfl, by rfl, ?_, ?_⟩ <;> ((repeat' ((try conv => whnf); (first | exact zV | refine And.intro ?_ ?_ | refine cellJ (fun _ _ => ?_) | (refine cellB ?_; (conv => whnf); refine And.intro ?_ ?_) | fail))) <;> (try conv => whnf)))
    · rintro i ⟨hi, hall⟩
      by_cases hlt : i < m.2.2.2.2.1.length
      · cases hg : gelB (m.2.2.2.2.1.getD i 0) with
        | true =>
          have c4 := (sGe_fn (m.2.2.2.2.1.getD i 0)).tt hg
          have g1 := gelB_iff.1 hg
          (repeat' first | ((with_reducible show ∃ _ : Bool, _); first | (refine ⟨_, [], _, [], _, _, c4, rfl, trivial, zW, Nx.mk ?_⟩; conv => whnf))  | (refine splitD (fun hs => Nx.mk ?_) (fun hs => Nx.mk ?_) <;> ((try simp only [Ct.len] at hs); revert hs; intro _; conv => whnf)) | (refine splitB (fun _ => Nx.mk ?_) (fun _ => Nx.mk ?_) <;> conv => whnf) | ((first | refine zA ?_ | refine zB ?_ | refine zC ?_ | refine zD ?_ | refine zE ?_ | refine zF ?_ | refine zG ?_ | fail); conv => whnf)|(refine nilQ (fun _ => Nx.mk ?_) (Nx.mk ?_) <;> conv => whnf) | ((first | refine condN Tryz.underlying4 (Nx.mk ?_) | refine zH ?_ | refine Nx.mk ?_); conv => whnf))
          (all_goals try first | contradiction | (exfalso; omega))
          refine ⟨i + 1, ⟨by omega, fun j hj => ?_⟩, by omega, ?_⟩
          · by_cases e : j = i
            · subst e; exact g1
            · exact hall j (by omega)
          · ((try conv => whnf); refine ⟨rfl, by rfl, ?_, ?_⟩ <;> ((repeat' ((try conv => whnf); (first | exact zV | refine And.intro ?_ ?_ | refine cellJ (fun _ _ => ?_) | (refine cellB ?_; (conv => whnf); refine And.intro ?_ ?_) | fail))) <;> (try conv => whnf)))
        | false =>
          have c4 := (sGe_fn (m.2.2.2.2.1.getD i 0)).res (r' := .b false) (by rw [hg])
          rw [manB_no (fun hv => by have h5 := gelB_iff.2 (hv.2 i hlt); rw [hg] at h5; cases h5)]
          (repeat' first | ((with_reducible show ∃ _ : Bool, _); first | (refine ⟨_, [], _, [], _, _, c4, rfl, trivial, zW, Nx.mk ?_⟩; conv => whnf))  | (refine splitD (fun hs => Nx.mk ?_) (fun hs => Nx.mk ?_) <;> ((try simp only [Ct.len] at hs); revert hs; intro _; conv => whnf)) | (refine splitB (fun _ => Nx.mk ?_) (fun _ => Nx.mk ?_) <;> conv => whnf) | ((first | refine zA ?_ | refine zB ?_ | refine zC ?_ | refine zD ?_ | refine zE ?_ | refine zF ?_ | refine zG ?_ | fail); conv => whnf)|(refine nilQ (fun _ => Nx.mk ?_) (Nx.mk ?_) <;> conv => whnf) | ((first | refine condN Tryz.underlying4 (Nx.mk ?_) | refine zH ?_ | refine Nx.mk ?_); conv => whnf))
          (all_goals try first | contradiction | (exfalso; omega))
          (refine ⟨[], rfl, ⟨rfl, rfl, trivial, trivial⟩, ?_, ⟨?_, trivial⟩, fun _ => ⟨?_, trivial⟩⟩ <;> ((repeat' ((try conv => whnf); (first | exact zV | refine And.intro ?_ ?_ | refine cellJ (fun _ _ => ?_) | (refine cellB ?_; (conv => whnf); refine And.intro ?_ ?_) | fail))) <;> (try conv => whnf)))
      · obtain rfl : i = m.2.2.2.2.1.length := by omega
        rw [manB_yes hc hall]
        (repeat' first | ((with_reducible show ∃ _ : Bool, _); first | (refine ⟨_, [], _, [], _, _, c3, rfl, trivial, zW, Nx.mk ?_⟩; conv => whnf))  | (refine splitD (fun hs => Nx.mk ?_) (fun hs => Nx.mk ?_) <;> ((try simp only [Ct.len] at hs); revert hs; intro _; conv => whnf)) | (refine splitB (fun _ => Nx.mk ?_) (fun _ => Nx.mk ?_) <;> conv => whnf) | ((first | refine zA ?_ | refine zB ?_ | refine zC ?_ | refine zD ?_ | refine zE ?_ | refine zF ?_ | refine zG ?_ | fail); conv => whnf)|(refine nilQ (fun _ => Nx.mk ?_) (Nx.mk ?_) <;> conv => whnf) | ((first | refine condN Tryz.underlying4 (Nx.mk ?_) | refine zH ?_ | refine Nx.mk ?_); conv => whnf))
        (all_goals try first | contradiction | (exfalso; omega))
        (refine ⟨[], rfl, ⟨rfl, rfl, trivial, trivial⟩, ?_, ⟨?_, trivial⟩, fun _ => ⟨?_, trivial⟩⟩ <;> ((repeat' ((try conv => whnf); (first | exact zV | refine And.intro ?_ ?_ | refine cellJ (fun _ _ => ?_) | (refine cellB ?_; (conv => whnf); refine And.intro ?_ ?_) | fail))) <;> (try conv => whnf)))
  · rw [manB_no (fun hv => hc hv.1)]
    (refine Fn_of tysOk Tryz.func54 rfl rfl (by simp [AV.len, Tryz.f54]) ⟨?_⟩; conv => whnf)
    (repeat' first | ((with_reducible show ∃ _ : Bool, _); first | (refine ⟨_, [], _, [], _, _, l1In_fn _ _ _, rfl, trivial, zW, Nx.mk ?_⟩; conv => whnf)|(refine ⟨_, [], _, [], _, _, sFmt_fn _ _ _, rfl, trivial, zW, Nx.mk ?_⟩; conv => whnf))  | (refine splitD (fun hs => Nx.mk ?_) (fun hs => Nx.mk ?_) <;> ((try simp only [Ct.len] at hs); revert hs; intro _; conv => whnf)) | (refine splitB (fun _ => Nx.mk ?_) (fun _ => Nx.mk ?_) <;> conv => whnf) | ((first | refine zA ?_ | refine zB ?_ | refine zC ?_ | refine zD ?_ | refine zE ?_ | refine zF ?_ | refine zG ?_ | fail); conv => whnf)|(refine nilQ (fun _ => Nx.mk ?_) (Nx.mk ?_) <;> conv => whnf) | ((first | refine condN Tryz.underlying4 (Nx.mk ?_) | refine zH ?_ | refine Nx.mk ?_); conv => whnf))
    all_goals first
      | ((refine ⟨[], rfl, ⟨rfl, rfl, trivial, trivial⟩, ?_, ⟨?_, trivial⟩, fun _ => ⟨?_, trivial⟩⟩ <;> ((repeat' ((try conv => whnf); (first | exact zV | refine And.intro ?_ ?_ | refine cellJ (fun _ _ => ?_) | (refine cellB ?_; (conv => whnf); refine And.intro ?_ ?_) | fail))) <;> (try conv => whnf))); done)
      | skip
    all_goals
      (have hq : ¬ (0 ≤ m.2.2.2.2.2.1 ∧ m.2.2.2.2.2.1 ≤ 2147483646) := fun hw => hc ⟨by omega, by assumption, by omega, hw⟩
       refine loopI tysOk [] (fun i : Nat => [(3, .I i)]) (fun i => []) (fun i => i ≤ m.2.2.2.2.1.length) (fun i => m.2.2.2.2.1.length - i) 0 (Nat.zero_le _) ?_ ?_
       · ((try conv => whnf); refine ⟨rfl, by rfl, ?_, ?_⟩ <;> ((repeat' ((try conv => whnf); (first | exact zV | refine And.intro ?_ ?_ | refine cellJ (fun _ _ => ?_) | (refine cellB ?_; (conv => whnf); refine And.intro ?_ ?_) | fail))) <;> (try conv => whnf)))
       · rintro i hi
         (repeat' first | ((with_reducible show ∃ _ : Bool, _); first | (refine ⟨_, [], _, [], _, _, sGe_fn (m.2.2.2.2.1.getD i 0), rfl, trivial, zW, Nx.mk ?_⟩; conv => whnf)|(refine ⟨_, [], _, [], _, _, l1In_fn _ _ _, rfl, trivial, zW, Nx.mk ?_⟩; conv => whnf))  | (refine splitD (fun hs => Nx.mk ?_) (fun hs => Nx.mk ?_) <;> ((try simp only [Ct.len] at hs); revert hs; intro _; conv => whnf)) | (refine splitB (fun _ => Nx.mk ?_) (fun _ => Nx.mk ?_) <;> conv => whnf) | ((first | refine zA ?_ | refine zB ?_ | refine zC ?_ | refine zD ?_ | refine zE ?_ | refine zF ?_ | refine zG ?_ | fail); conv => whnf)|(refine nilQ (fun _ => Nx.mk ?_) (Nx.mk ?_) <;> conv => whnf) | ((first | refine condN Tryz.underlying4 (Nx.mk ?_) | refine zH ?_ | refine Nx.mk ?_); conv => whnf))
         all_goals first
           | ((refine ⟨[], rfl, ⟨rfl, rfl, trivial, trivial⟩, ?_, ⟨?_, trivial⟩, fun _ => ⟨?_, trivial⟩⟩ <;> ((repeat' ((try conv => whnf); (first | exact zV | refine And.intro ?_ ?_ | refine cellJ (fun _ _ => ?_) | (refine cellB ?_; (conv => whnf); refine And.intro ?_ ?_) | fail))) <;> (try conv => whnf))); done)
           | (refine ⟨i + 1, by omega, by omega, ?_⟩
              ((try conv => whnf); refine ⟨rfl, by rfl, ?_, ?_⟩ <;> ((repeat' ((try conv => whnf); (first | exact zV | refine And.intro ?_ ?_ | refine cellJ (fun _ _ => ?_) | (refine cellB ?_; (conv => whnf); refine And.intro ?_ ?_) | fail))) <;> (try conv => whnf)))
              done)
           | (exfalso; exact hq (by omega)))
theorem sPkt_fn (p : CodedPacket_T) (a b : Int) (h : sz_CodedPacket p ≤ 1048576) : Fn Tryz.prog 96 true (.cons (.agg (CodedPacket_R p)) (.cons (.I a) (.cons (.I b) .nil))) [] (.b (pktB p a b)) [] := by
  have hp : p.2.1.length + p.2.2.1.length ≤ 1048576 := h
  (refine Fn_of tysOk Tryz.func96 rfl rfl (by simp [AV.len, Tryz.f96]) ⟨?_⟩; conv => whnf)
  (repeat' first | ((with_reducible show ∃ _ : Bool, _); first | (refine ⟨_, [], _, [], _, _, l1In_fn _ _ _, rfl, trivial, zW, Nx.mk ?_⟩; conv => whnf)|(refine ⟨_, [], _, [], _, _, sVec_fn p.2.1 (by omega), rfl, trivial, zW, Nx.mk ?_⟩; conv => whnf)|(refine ⟨_, [], _, [], _, _, sVec_fn p.2.2.1 (by omega), rfl, trivial, zW, Nx.mk ?_⟩; conv => whnf))  | (refine splitD (fun hs => Nx.mk ?_) (fun hs => Nx.mk ?_) <;> ((try simp only [Ct.len] at hs); revert hs; intro _; conv => whnf)) | (refine splitB (fun _ => Nx.mk ?_) (fun _ => Nx.mk ?_) <;> conv => whnf) | ((first | refine zA ?_ | refine zB ?_ | refine zC ?_ | refine zD ?_ | refine zE ?_ | refine zF ?_ | refine zG ?_ | fail); conv => whnf)|(refine nilQ (fun _ => Nx.mk ?_) (Nx.mk ?_) <;> conv => whnf) | ((first | refine condN Tryz.underlying4 (Nx.mk ?_) | refine zH ?_ | refine Nx.mk ?_); conv => whnf))
  all_goals ((refine ⟨[], rfl, ⟨rfl, rfl, trivial, trivial⟩, ?_, ⟨?_, trivial⟩, fun _ => ⟨?_, trivial⟩⟩ <;> ((repeat' ((try conv => whnf); (first | exact zV | refine And.intro ?_ ?_ | refine cellJ (fun _ _ => ?_) | (refine cellB ?_; (conv => whnf); refine And.intro ?_ ?_) | fail))) <;> (try conv => whnf))); unfold pktB; try unfold FmtOk at *; first | exact (decide_eq_true (by refine ⟨by omega, by omega, by omega, by assumption, by assumption⟩)).symm | exact (decide_eq_false (fun hq => by obtain ⟨q1, q2, q3, q4, q5⟩ := hq; first | omega | contradiction | (simp_all; done))).symm)
theorem sVhB_fn (k : HashKey_T) (hs : List Int) (p : CodedPacket_T) (h : sz_HashKey k ≤ 1048576) (h1 : hs.length ≤ 1048576) (h2 : sz_CodedPacket p ≤ 1048576) : Fn Tryz.prog 97 true (.cons (.agg (HashKey_R k)) (.cons (.ri false .i64 hs) (.cons (.agg (CodedPacket_R p)) .nil))) [] (.b (vhB k hs p)) [] := sVh_fn k hs p h h1 h2
theorem iFmt_fn (a b c : Int) : Fn Tryz.prog 100 true (.cons (.I a) (.cons (.I b) (.cons (.I c) .nil))) [] (.b (decide (FmtOk a b c))) [] := by
  (refine Fn_of tysOk Tryz.func100 rfl rfl (by simp [AV.len, Tryz.f100]) ⟨?_⟩; conv => whnf)
  (repeat' first | ((with_reducible show ∃ _ : Bool, _); first | (refine ⟨_, [], _, [], _, _, inRange_fn _ _ _, rfl, trivial, zW, Nx.mk ?_⟩; conv => whnf))  | (refine splitD (fun hs => Nx.mk ?_) (fun hs => Nx.mk ?_) <;> ((try simp only [Ct.len] at hs); revert hs; intro _; conv => whnf)) | (refine splitB (fun _ => Nx.mk ?_) (fun _ => Nx.mk ?_) <;> conv => whnf) | ((first | refine zA ?_ | refine zB ?_ | refine zC ?_ | refine zD ?_ | refine zE ?_ | refine zF ?_ | refine zG ?_ | fail); conv => whnf)|(refine nilQ (fun _ => Nx.mk ?_) (Nx.mk ?_) <;> conv => whnf) | ((first | refine condN Tryz.underlying4 (Nx.mk ?_) | refine zH ?_ | refine Nx.mk ?_); conv => whnf))
  all_goals ((refine ⟨[], rfl, ⟨rfl, rfl, trivial, trivial⟩, ?_, ⟨?_, trivial⟩, fun _ => ⟨?_, trivial⟩⟩ <;> ((repeat' ((try conv => whnf); (first | exact zV | refine And.intro ?_ ?_ | refine cellJ (fun _ _ => ?_) | (refine cellB ?_; (conv => whnf); refine And.intro ?_ ?_) | fail))) <;> (try conv => whnf))); unfold FmtOk; (first | exact Eq.refl _ | exact decide_eq_true (by assumption) | exact decide_eq_false (by assumption) | exact (decide_eq_true (by omega)).symm | exact (decide_eq_false (by omega)).symm | exact decide_eq_true (by omega) | exact decide_eq_false (by omega)))
theorem man1_tests : Tests 101 (fun x => !gelB x) := by
  intro x
  (refine Fn_of tysOk Tryz.func101 rfl rfl (by simp [AV.len, Tryz.f101]) ⟨?_⟩; conv => whnf)
  (repeat' first | ((with_reducible show ∃ _ : Bool, _); first | (refine ⟨_, [], _, [], _, _, iGe_fn x, rfl, trivial, zW, Nx.mk ?_⟩; conv => whnf))  | (refine splitD (fun hs => Nx.mk ?_) (fun hs => Nx.mk ?_) <;> ((try simp only [Ct.len] at hs); revert hs; intro _; conv => whnf)) | (refine splitB (fun _ => Nx.mk ?_) (fun _ => Nx.mk ?_) <;> conv => whnf) | ((first | refine zA ?_ | refine zB ?_ | refine zC ?_ | refine zD ?_ | refine zE ?_ | refine zF ?_ | refine zG ?_ | fail); conv => whnf)|(refine nilQ (fun _ => Nx.mk ?_) (Nx.mk ?_) <;> conv => whnf) | ((first | refine condN Tryz.underlying4 (Nx.mk ?_) | refine zH ?_ | refine Nx.mk ?_); conv => whnf))
  all_goals ((refine ⟨[], rfl, ⟨rfl, rfl, trivial, trivial⟩, ?_, ⟨?_, trivial⟩, fun _ => ⟨?_, trivial⟩⟩ <;> ((repeat' ((try conv => whnf); (first | exact zV | refine And.intro ?_ ?_ | refine cellJ (fun _ _ => ?_) | (refine cellB ?_; (conv => whnf); refine And.intro ?_ ?_) | fail))) <;> (try conv => whnf))); simp_all)
theorem iMan_fn (m : Manifest_T) (h : sz_Manifest m ≤ 1048576) : Fn Tryz.prog 58 true (.cons (.agg (Manifest_R m)) .nil) [] (.b (manB m)) [] := by
  have hl : m.2.2.2.2.1.length ≤ 1048576 := h
  by_cases hc : ManC m
  · obtain ⟨hc1, hc2, hc3, hc4⟩ := id hc
    have c1 := (inRange_fn m.1 0 7).tt (decide_eq_true hc1)
    have c2 := (iFmt_fn m.2.1 m.2.2.1 m.2.2.2.1).tt (decide_eq_true hc2)
    have c3 := (inRange_fn m.2.2.2.2.2.1 0 2147483646).tt (decide_eq_true hc4)
    (refine Fn_of tysOk Tryz.func58 rfl rfl (by simp [AV.len, Tryz.f58]) ⟨?_⟩; conv => whnf)
    have e : manB m = !(m.2.2.2.2.1.any (fun x => !gelB x)) := by
      by_cases ha : AllG m.2.2.2.2.1
      · rw [manB_yes hc ha]
        have : m.2.2.2.2.1.any (fun x => !gelB x) = false := by
          rw [List.any_eq_false]
          intro x hx
          obtain ⟨i, hi, rfl⟩ := List.mem_iff_getElem.1 hx
          have := gelB_iff.2 (ha i hi)
          rw [List.getD_eq_getElem?_getD, List.getElem?_eq_getElem hi] at this
          have h9 : gelB m.2.2.2.2.1[i] = true := this
          rw [h9]; simp
        rw [this]; rfl
      · rw [manB_no (fun hv => ha hv.2)]
        have : m.2.2.2.2.1.any (fun x => !gelB x) = true := by
          cases hb : m.2.2.2.2.1.any (fun x => !gelB x) with
          | true => rfl
          | false =>
            exfalso
            apply ha
            intro i hi
            rw [List.any_eq_false] at hb
            have h8 := hb m.2.2.2.2.1[i] (List.getElem_mem hi)
            rw [List.getD_eq_getElem?_getD, List.getElem?_eq_getElem hi]
            show GEl m.2.2.2.2.1[i]
            apply gelB_iff.1
            simpa using h8
        rw [this]; rfl
    rw [e]
    (repeat' first | ((with_reducible show ∃ _ : Bool, _); first | (refine ⟨_, [], _, [], _, _, c1, rfl, trivial, zW, Nx.mk ?_⟩; conv => whnf)|(refine ⟨_, [], _, [], _, _, c2, rfl, trivial, zW, Nx.mk ?_⟩; conv => whnf)|(refine ⟨_, [], _, [], _, _, c3, rfl, trivial, zW, Nx.mk ?_⟩; conv => whnf)|(refine ⟨_, [], _, [], _, _, containsFunc_fn _ _ man1_tests m.2.2.2.2.1 (by omega), rfl, trivial, zW, Nx.mk ?_⟩; conv => whnf))  | (refine splitD (fun hs => Nx.mk ?_) (fun hs => Nx.mk ?_) <;> ((try simp only [Ct.len] at hs); revert hs; intro _; conv => whnf)) | (refine splitB (fun _ => Nx.mk ?_) (fun _ => Nx.mk ?_) <;> conv => whnf) | ((first | refine zA ?_ | refine zB ?_ | refine zC ?_ | refine zD ?_ | refine zE ?_ | refine zF ?_ | refine zG ?_ | fail); conv => whnf)|(refine nilQ (fun _ => Nx.mk ?_) (Nx.mk ?_) <;> conv => whnf) | ((first | refine condN Tryz.underlying4 (Nx.mk ?_) | refine zH ?_ | refine Nx.mk ?_); conv => whnf))
    (all_goals try first | contradiction | (exfalso; omega))
    all_goals ((refine ⟨[], rfl, ⟨rfl, rfl, trivial, trivial⟩, ?_, ⟨?_, trivial⟩, fun _ => ⟨?_, trivial⟩⟩ <;> ((repeat' ((try conv => whnf); (first | exact zV | refine And.intro ?_ ?_ | refine cellJ (fun _ _ => ?_) | (refine cellB ?_; (conv => whnf); refine And.intro ?_ ?_) | fail))) <;> (try conv => whnf))); try simp_all)
  · rw [manB_no (fun hv => hc hv.1)]
    (refine Fn_of tysOk Tryz.func58 rfl rfl (by simp [AV.len, Tryz.f58]) ⟨?_⟩; conv => whnf)
    (repeat' first | ((with_reducible show ∃ _ : Bool, _); first | (refine ⟨_, [], _, [], _, _, inRange_fn _ _ _, rfl, trivial, zW, Nx.mk ?_⟩; conv => whnf)|(refine ⟨_, [], _, [], _, _, iFmt_fn _ _ _, rfl, trivial, zW, Nx.mk ?_⟩; conv => whnf))  | (refine splitD (fun hs => Nx.mk ?_) (fun hs => Nx.mk ?_) <;> ((try simp only [Ct.len] at hs); revert hs; intro _; conv => whnf)) | (refine splitB (fun _ => Nx.mk ?_) (fun _ => Nx.mk ?_) <;> conv => whnf) | ((first | refine zA ?_ | refine zB ?_ | refine zC ?_ | refine zD ?_ | refine zE ?_ | refine zF ?_ | refine zG ?_ | fail); conv => whnf)|(refine nilQ (fun _ => Nx.mk ?_) (Nx.mk ?_) <;> conv => whnf) | ((first | refine condN Tryz.underlying4 (Nx.mk ?_) | refine zH ?_ | refine Nx.mk ?_); conv => whnf))
    all_goals first
      | ((refine ⟨[], rfl, ⟨rfl, rfl, trivial, trivial⟩, ?_, ⟨?_, trivial⟩, fun _ => ⟨?_, trivial⟩⟩ <;> ((repeat' ((try conv => whnf); (first | exact zV | refine And.intro ?_ ?_ | refine cellJ (fun _ _ => ?_) | (refine cellB ?_; (conv => whnf); refine And.intro ?_ ?_) | fail))) <;> (try conv => whnf))); done)
      | (exfalso
         exact hc ⟨by omega, by assumption, by omega, by omega⟩)
theorem iPkt_fn (p : CodedPacket_T) (a b : Int) (h : sz_CodedPacket p ≤ 1048576) : Fn Tryz.prog 104 true (.cons (.agg (CodedPacket_R p)) (.cons (.I a) (.cons (.I b) .nil))) [] (.b (pktB p a b)) [] := by
  have hp : p.2.1.length + p.2.2.1.length ≤ 1048576 := h
  (refine Fn_of tysOk Tryz.func104 rfl rfl (by simp [AV.len, Tryz.f104]) ⟨?_⟩; conv => whnf)
  (repeat' first | ((with_reducible show ∃ _ : Bool, _); first | (refine ⟨_, [], _, [], _, _, iFmt_fn p.1 a b, rfl, trivial, zW, Nx.mk ?_⟩; conv => whnf)|(refine ⟨_, [], _, [], _, _, iVec_fn p.2.1 (by omega), rfl, trivial, zW, Nx.mk ?_⟩; conv => whnf)|(refine ⟨_, [], _, [], _, _, iVec_fn p.2.2.1 (by omega), rfl, trivial, zW, Nx.mk ?_⟩; conv => whnf))  | (refine splitD (fun hs => Nx.mk ?_) (fun hs => Nx.mk ?_) <;> ((try simp only [Ct.len] at hs); revert hs; intro _; conv => whnf)) | (refine splitB (fun _ => Nx.mk ?_) (fun _ => Nx.mk ?_) <;> conv => whnf) | ((first | refine zA ?_ | refine zB ?_ | refine zC ?_ | refine zD ?_ | refine zE ?_ | refine zF ?_ | refine zG ?_ | fail); conv => whnf)|(refine nilQ (fun _ => Nx.mk ?_) (Nx.mk ?_) <;> conv => whnf) | ((first | refine condN Tryz.underlying4 (Nx.mk ?_) | refine zH ?_ | refine Nx.mk ?_); conv => whnf))
  all_goals ((refine ⟨[], rfl, ⟨rfl, rfl, trivial, trivial⟩, ?_, ⟨?_, trivial⟩, fun _ => ⟨?_, trivial⟩⟩ <;> ((repeat' ((try conv => whnf); (first | exact zV | refine And.intro ?_ ?_ | refine cellJ (fun _ _ => ?_) | (refine cellB ?_; (conv => whnf); refine And.intro ?_ ?_) | fail))) <;> (try conv => whnf))); unfold pktB; try unfold FmtOk at *; first | exact (decide_eq_true (by refine ⟨by omega, by omega, by omega, by assumption, by assumption⟩)).symm | exact (decide_eq_false (fun hq => by obtain ⟨q1, q2, q3, q4, q5⟩ := hq; first | omega | contradiction | (simp_all; done))).symm)
theorem iVhB_fn (k : HashKey_T) (hs : List Int) (p : CodedPacket_T) (h : sz_HashKey k ≤ 1048576) (h1 : hs.length ≤ 1048576) (h2 : sz_CodedPacket p ≤ 1048576) : Fn Tryz.prog 105 true (.cons (.agg (HashKey_R k)) (.cons (.ri false .i64 hs) (.cons (.agg (CodedPacket_R p)) .nil))) [] (.b (vhB k hs p)) [] := iVh_fn k hs p h h1 h2
attribute [local irreducible] pktB vhB
theorem sCk_fn (k : HashKey_T) (m : Manifest_T) (p : CodedPacket_T) (h : sz_HashKey k ≤ 1048576) (h1 : sz_Manifest m ≤ 1048576) (h2 : sz_CodedPacket p ≤ 1048576) : Fn Tryz.prog 55 true (.cons (.agg (HashKey_R k)) (.cons (.agg (Manifest_R m)) (.cons (.agg (CodedPacket_R p)) .nil))) [] (.I (ckv k m p)) [] := by
  have hp : p.2.1.length + p.2.2.1.length ≤ 1048576 := h2
  have hk : k.1.length ≤ 1048576 := h
  have hm : m.2.2.2.2.1.length ≤ 1048576 := h1
  (refine Fn_of tysOk Tryz.func55 rfl rfl (by simp [AV.len, Tryz.f55]) ⟨?_⟩; conv => whnf)
  (repeat' first | ((with_reducible show ∃ _ : Bool, _); first | (refine ⟨_, [], _, [], _, _, sMan_fn m h1, rfl, trivial, zW, Nx.mk ?_⟩; conv => whnf)|(refine ⟨_, [], _, [], _, _, sHk_fn k h, rfl, trivial, zW, Nx.mk ?_⟩; conv => whnf)|(refine ⟨_, [], _, [], _, _, sPkt_fn p m.2.2.1 m.2.2.2.1 h2, rfl, trivial, zW, Nx.mk ?_⟩; conv => whnf)|(refine ⟨_, [], _, [], _, _, sVhB_fn k m.2.2.2.2.1 p h h1 h2, rfl, trivial, zW, Nx.mk ?_⟩; conv => whnf))  | (refine splitD (fun hs => Nx.mk ?_) (fun hs => Nx.mk ?_) <;> ((try simp only [Ct.len] at hs); revert hs; intro _; conv => whnf)) | (refine splitB (fun _ => Nx.mk ?_) (fun _ => Nx.mk ?_) <;> conv => whnf) | ((first | refine zA ?_ | refine zB ?_ | refine zC ?_ | refine zD ?_ | refine zE ?_ | refine zF ?_ | refine zG ?_ | fail); conv => whnf)|(refine nilQ (fun _ => Nx.mk ?_) (Nx.mk ?_) <;> conv => whnf) | ((first | refine condN Tryz.underlying4 (Nx.mk ?_) | refine zH ?_ | refine Nx.mk ?_); conv => whnf))
  all_goals ((refine ⟨[], rfl, ⟨rfl, rfl, trivial, trivial⟩, ?_, ⟨?_, trivial⟩, fun _ => ⟨?_, trivial⟩⟩ <;> ((repeat' ((try conv => whnf); (first | exact zV | refine And.intro ?_ ?_ | refine cellJ (fun _ _ => ?_) | (refine cellB ?_; (conv => whnf); refine And.intro ?_ ?_) | fail))) <;> (try conv => whnf))); unfold ckv; simp_all; done)
theorem sPrf_fn (mk : Int) (k : HashKey_T) (m : Manifest_T) (l : LinkPacket_T) (h : sz_HashKey k ≤ 1048576) (h1 : sz_Manifest m ≤ 1048576) (h2 : sz_LinkPacket l ≤ 1048576) : Fn Tryz.prog 34 true (.cons (.I mk) (.cons (.agg (HashKey_R k)) (.cons (.agg (Manifest_R m)) (.cons (.agg (LinkPacket_R l)) .nil)))) [] (.b (prfB mk k m l)) [] := by
  have hk : k.1.length ≤ 1048576 := h
  have hm : m.2.2.2.2.1.length ≤ 1048576 := h1
  (refine Fn_of tysOk Tryz.func34 rfl rfl (by simp [AV.len, Tryz.f34]) ⟨?_⟩; conv => whnf)
  (repeat' first | ((with_reducible show ∃ _ : Bool, _); first | (refine ⟨_, [], _, [], _, _, sSgn_fn mk l h2, rfl, trivial, zW, Nx.mk ?_⟩; conv => whnf)|(refine ⟨_, [], _, [], _, _, sMan_fn m h1, rfl, trivial, zW, Nx.mk ?_⟩; conv => whnf)|(refine ⟨_, [], _, [], _, _, sCk_fn k m l.2.2.2.1 h h1 h2, rfl, trivial, zW, Nx.mk ?_⟩; conv => whnf))  | (refine splitD (fun hs => Nx.mk ?_) (fun hs => Nx.mk ?_) <;> ((try simp only [Ct.len] at hs); revert hs; intro _; conv => whnf)) | (refine splitB (fun _ => Nx.mk ?_) (fun _ => Nx.mk ?_) <;> conv => whnf) | ((first | refine zA ?_ | refine zB ?_ | refine zC ?_ | refine zD ?_ | refine zE ?_ | refine zF ?_ | refine zG ?_ | fail); conv => whnf)|(refine nilQ (fun _ => Nx.mk ?_) (Nx.mk ?_) <;> conv => whnf) | ((first | refine condN Tryz.underlying4 (Nx.mk ?_) | refine zH ?_ | refine Nx.mk ?_); conv => whnf))
  all_goals ((refine ⟨[], rfl, ⟨rfl, rfl, trivial, trivial⟩, ?_, ⟨?_, trivial⟩, fun _ => ⟨?_, trivial⟩⟩ <;> ((repeat' ((try conv => whnf); (first | exact zV | refine And.intro ?_ ?_ | refine cellJ (fun _ _ => ?_) | (refine cellB ?_; (conv => whnf); refine And.intro ?_ ?_) | fail))) <;> (try conv => whnf))); unfold prfB; simp_all; done)
theorem iCk_fn (k : HashKey_T) (m : Manifest_T) (p : CodedPacket_T) (h : sz_HashKey k ≤ 1048576) (h1 : sz_Manifest m ≤ 1048576) (h2 : sz_CodedPacket p ≤ 1048576) : Fn Tryz.prog 59 true (.cons (.agg (HashKey_R k)) (.cons (.agg (Manifest_R m)) (.cons (.agg (CodedPacket_R p)) .nil))) [] (.I (ckv k m p)) [] := by
  have hp : p.2.1.length + p.2.2.1.length ≤ 1048576 := h2
  have hk : k.1.length ≤ 1048576 := h
  have hm : m.2.2.2.2.1.length ≤ 1048576 := h1
  (refine Fn_of tysOk Tryz.func59 rfl rfl (by simp [AV.len, Tryz.f59]) ⟨?_⟩; conv => whnf)
  (repeat' first | ((with_reducible show ∃ _ : Bool, _); first | (refine ⟨_, [], _, [], _, _, iMan_fn m h1, rfl, trivial, zW, Nx.mk ?_⟩; conv => whnf)|(refine ⟨_, [], _, [], _, _, iHk_fn k h, rfl, trivial, zW, Nx.mk ?_⟩; conv => whnf)|(refine ⟨_, [], _, [], _, _, iPkt_fn p m.2.2.1 m.2.2.2.1 h2, rfl, trivial, zW, Nx.mk ?_⟩; conv => whnf)|(refine ⟨_, [], _, [], _, _, iVhB_fn k m.2.2.2.2.1 p h h1 h2, rfl, trivial, zW, Nx.mk ?_⟩; conv => whnf))  | (refine splitD (fun hs => Nx.mk ?_) (fun hs => Nx.mk ?_) <;> ((try simp only [Ct.len] at hs); revert hs; intro _; conv => whnf)) | (refine splitB (fun _ => Nx.mk ?_) (fun _ => Nx.mk ?_) <;> conv => whnf) | ((first | refine zA ?_ | refine zB ?_ | refine zC ?_ | refine zD ?_ | refine zE ?_ | refine zF ?_ | refine zG ?_ | fail); conv => whnf)|(refine nilQ (fun _ => Nx.mk ?_) (Nx.mk ?_) <;> conv => whnf) | ((first | refine condN Tryz.underlying4 (Nx.mk ?_) | refine zH ?_ | refine Nx.mk ?_); conv => whnf))
  all_goals ((refine ⟨[], rfl, ⟨rfl, rfl, trivial, trivial⟩, ?_, ⟨?_, trivial⟩, fun _ => ⟨?_, trivial⟩⟩ <;> ((repeat' ((try conv => whnf); (first | exact zV | refine And.intro ?_ ?_ | refine cellJ (fun _ _ => ?_) | (refine cellB ?_; (conv => whnf); refine And.intro ?_ ?_) | fail))) <;> (try conv => whnf))); unfold ckv; simp_all; done)
theorem iPrf_fn (mk : Int) (k : HashKey_T) (m : Manifest_T) (l : LinkPacket_T) (h : sz_HashKey k ≤ 1048576) (h1 : sz_Manifest m ≤ 1048576) (h2 : sz_LinkPacket l ≤ 1048576) : Fn Tryz.prog 37 true (.cons (.I mk) (.cons (.agg (HashKey_R k)) (.cons (.agg (Manifest_R m)) (.cons (.agg (LinkPacket_R l)) .nil)))) [] (.b (prfB mk k m l)) [] := by
  have hk : k.1.length ≤ 1048576 := h
  have hm : m.2.2.2.2.1.length ≤ 1048576 := h1
  (refine Fn_of tysOk Tryz.func37 rfl rfl (by simp [AV.len, Tryz.f37]) ⟨?_⟩; conv => whnf)
  (repeat' first | ((with_reducible show ∃ _ : Bool, _); first | (refine ⟨_, [], _, [], _, _, iSgn_fn mk l h2, rfl, trivial, zW, Nx.mk ?_⟩; conv => whnf)|(refine ⟨_, [], _, [], _, _, iMan_fn m h1, rfl, trivial, zW, Nx.mk ?_⟩; conv => whnf)|(refine ⟨_, [], _, [], _, _, iCk_fn k m l.2.2.2.1 h h1 h2, rfl, trivial, zW, Nx.mk ?_⟩; conv => whnf))  | (refine splitD (fun hs => Nx.mk ?_) (fun hs => Nx.mk ?_) <;> ((try simp only [Ct.len] at hs); revert hs; intro _; conv => whnf)) | (refine splitB (fun _ => Nx.mk ?_) (fun _ => Nx.mk ?_) <;> conv => whnf) | ((first | refine zA ?_ | refine zB ?_ | refine zC ?_ | refine zD ?_ | refine zE ?_ | refine zF ?_ | refine zG ?_ | fail); conv => whnf)|(refine nilQ (fun _ => Nx.mk ?_) (Nx.mk ?_) <;> conv => whnf) | ((first | refine condN Tryz.underlying4 (Nx.mk ?_) | refine zH ?_ | refine Nx.mk ?_); conv => whnf))
  all_goals ((refine ⟨[], rfl, ⟨rfl, rfl, trivial, trivial⟩, ?_, ⟨?_, trivial⟩, fun _ => ⟨?_, trivial⟩⟩ <;> ((repeat' ((try conv => whnf); (first | exact zV | refine And.intro ?_ ?_ | refine cellJ (fun _ _ => ?_) | (refine cellB ?_; (conv => whnf); refine And.intro ?_ ?_) | fail))) <;> (try conv => whnf))); unfold prfB; simp_all; done)
end Go.Proofs.YtbepgedckfhifaaGreat
