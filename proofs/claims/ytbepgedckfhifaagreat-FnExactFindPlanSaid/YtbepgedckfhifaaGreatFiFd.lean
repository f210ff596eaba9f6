/-
  Structs with one slice of integers.
-/
import Derived.Test.YtbepgedckfhifaaGreatFiFc
namespace Go.Proofs.YtbepgedckfhifaaGreat
set_option linter.unusedVariables false
set_option linter.unusedSimpArgs false
set_option maxRecDepth 100000
set_option maxHeartbeats 4000000
attribute [local irreducible] Fn
abbrev L1 := List Int × Unit
abbrev L1A (x : L1) : AV := .agg (.cons (.ri false .i64 x.1) .nil)
theorem markGraph_fn (g : Gr) (k : Int) (h0 : 0 ≤ k) (h1 : k ≤ 1099511627776) (h : g.2.1.length ≤ 1048576) : Fn Tryz.prog 29 true (.cons (.agg (.cons (.I g.1) (.cons (.os (rt 0)) .nil))) (.cons (.I k) .nil)) [(0, .row 109 (.tab g.2.1.length 3 (cellsA EdgA g.2.1)))] (.I (k + (3 * g.2.1.length : Nat))) [(0, .row 109 (.tab g.2.1.length 3 fun i j => (EdgA (mkEs k g.2.1 g.2.1.length i)).nth j))] := by
  (refine Fn_of tysOk Tryz.func29 rfl rfl (by simp [AV.len, Tryz.f29]) ⟨?_⟩; conv => whnf)
  (refine ⟨_, [rt 0], _, _, _, _, (markEdgeS_fn g.2.1 k h0 h1 (by omega)), rfl, ?_, ?_, Nx.mk ?_⟩)
  · ((repeat' ((try conv => whnf); (first|exact zU|refine And.intro ?_ ?_|exact fun _ _ _ _ => Eq.refl _|refine cellJ (fun _ _ => ?_)|(refine cellB ?_; (conv => whnf); refine And.intro ?_ ?_)|exact zV|fail))) <;> (try conv => whnf))
  · ((repeat' ((try conv => whnf); (first|exact zU|refine And.intro ?_ ?_|exact fun _ _ _ _ => Eq.refl _|refine cellJ (fun _ _ => ?_)|(refine cellB ?_; (conv => whnf); refine And.intro ?_ ?_)|exact zV|fail))) <;> (try conv => whnf))
  conv => whnf
  (repeat' first | (refine zK (fun hs => ?_) (fun hs => ?_) <;> ((try simp only [Ct.len] at hs); revert hs; intro _; conv => whnf)) | (refine zI (fun _ => ?_) (fun _ => ?_)<;> conv => whnf)|((first|refine zA ?_|refine zB ?_|refine zC ?_|refine zD ?_|refine zE ?_|refine zF ?_|refine zG ?_|fail); conv => whnf)|(refine zJ (fun _ => ?_) ?_<;> conv => whnf)|((first | refine condN Tryz.underlying4 (Nx.mk ?_) | refine zH ?_ | refine Nx.mk ?_); conv => whnf))
  refine ⟨[], rfl, ?_, ?_, ?_, fun _ => ?_⟩
  ((try conv => whnf); refine ⟨rfl, by rfl, ?_, ?_⟩ <;> ((repeat' ((try conv => whnf); (first|exact zU|refine And.intro ?_ ?_|exact fun _ _ _ _ => Eq.refl _|refine cellJ (fun _ _ => ?_)|(refine cellB ?_; (conv => whnf); refine And.intro ?_ ?_)|exact zV|fail))) <;> (try conv => whnf)))
  ((repeat' ((try conv => whnf); (first|exact zU|refine And.intro ?_ ?_|exact fun _ _ _ _ => Eq.refl _|refine cellJ (fun _ _ => ?_)|(refine cellB ?_; (conv => whnf); refine And.intro ?_ ?_)|exact zV|fail))) <;> (try conv => whnf))
  ((repeat' ((try conv => whnf); (first|exact zU|refine And.intro ?_ ?_|exact fun _ _ _ _ => Eq.refl _|refine cellJ (fun _ _ => ?_)|(refine cellB ?_; (conv => whnf); refine And.intro ?_ ?_)|exact zV|fail))) <;> (try conv => whnf))
  ((repeat' ((try conv => whnf); (first|exact zU|refine And.intro ?_ ?_|exact fun _ _ _ _ => Eq.refl _|refine cellJ (fun _ _ => ?_)|(refine cellB ?_; (conv => whnf); refine And.intro ?_ ?_)|exact zV|fail))) <;> (try conv => whnf))
end Go.Proofs.YtbepgedckfhifaaGreat
