/-
  The least costs to a node, of both.
-/
import Derived.Test.YtmnbpamaiboghaaSdGc
namespace Go.Proofs.Ytmnbpamaiboghaa
set_option linter.unusedVariables false
set_option linter.unusedSimpArgs false
set_option maxRecDepth 100000
set_option maxHeartbeats 4000000
attribute [local irreducible] Fn
theorem ps_no {g : Gr} {v c : List Int} {i : Nat} (h : ¬ Bet g v (ps g v c i) i) : ps g v c (i + 1) = ps g v c i := rx_no h
structure Fl (g : Gr) (v c : List Int) (i : Nat) (ch : Bool) : Prop where
  le : i ≤ g.2.1.length
  no : ch = false → ps g v c i = c ∧ ∀ k, k < i → ¬ Bet g v c k
  yes : ch = true → Mu (ps g v c i) < Mu c
theorem Fl.skip {g : Gr} {v c : List Int} {i : Nat} {ch : Bool} (h : Fl g v c i ch) (hi : i < g.2.1.length) (hb : ¬ Bet g v (ps g v c i) i) : Fl g v c (i + 1) ch := by
  refine ⟨hi, fun hc => ?_, fun hc => ?_⟩
  · obtain ⟨h1, h2⟩ := h.no hc
    refine ⟨by rw [ps_no hb, h1], fun k hk => ?_⟩
    by_cases e : k = i
    · rw [e]; rw [h1] at hb; exact hb
    · exact h2 k (by omega)
  · rw [ps_no hb]; exact h.yes hc
theorem Fl.take {g : Gr} {v c : List Int} {t : Int} {i : Nat} {ch : Bool} (hp : PriV g v) (h0 : 0 ≤ t) (hC : CI g v t c) (hi : i < g.2.1.length) (hb : Bet g v (ps g v c i) i) : Fl g v c (i + 1) true := by
  refine ⟨hi, (fun hc => by cases hc), fun _ => ?_⟩
  have h1 := rx_less hp (ps_inv hp h0 hC (n := i) (by omega)) hi hb
  have h2 : Mu (ps g v c i) ≤ Mu c := by
    rcases ps_or hp h0 hC (n := i) (by omega) with ⟨h2, _⟩ | h2
    · rw [h2]; exact Int.le_refl _
    · omega
  show Mu (rx g v (ps g v c i) i) < _
  omega
attribute [local irreducible] ps pss costs c0 Mu Bet
end Go.Proofs.Ytmnbpamaiboghaa
