/-
  How large coded packets are.
-/
import Derived.Test.YtbepgedckfhifaaSeJn
import Derived.Test.YtbepgedckfhifaaSeJo
namespace Go.Proofs.Ytbepgedckfhifaa
set_option linter.unusedVariables false
set_option linter.unusedSimpArgs false
set_option maxRecDepth 100000
set_option maxHeartbeats 4000000
attribute [local irreducible] Fn
theorem psum_bdP {X : Type} [Inhabited X] {f : X → Nat} {B : Nat} {xs : List X} (h : ∀ i, i < xs.length → f (xs.getD i default) ≤ B) : ∀ {i : Nat}, i ≤ xs.length → psum f xs i ≤ B * i := by
  intro i
  induction i with
  | zero => intro _; simp [psum]
  | succ i ih =>
    intro hi
    rw [psum_succ (by omega)]
    have := ih (by omega)
    have := h i (by omega)
    rw [Nat.mul_succ]
    omega
theorem epL_sz {g : Gr} {p : CodePlan_T} {x : Generation_T} {e : Int} : sz_CodedPacketS (epL g p x e) ≤ 4096 := by
  by_cases h : EpOk g p x e
  · rw [epL_yes h]
    obtain ⟨h1, h2, h3, h4, h5⟩ := h
    have hP := planB_iff.1 h1
    have hG := genB_iff.1 h2
    have hpl := hP.len
    have hed := hP.edge e.toNat (by omega)
    obtain ⟨_, _, _, _, _, _, hc, _⟩ := hP.v.edge e.toNat (by omega)
    have hcap := hed.cap
    have hl1 := hG.l1
    rw [szP_eq]
    have h6 := psum_bdP (f := fun x : CodedPacket_T => sz_CodedPacket x) (B := 24) (xs := (vecs p e.toNat).map (pkt1 x)) (fun i hi => by
      rw [List.length_map] at hi
      rw [map_at (f := pkt1 x) hi]
      obtain ⟨v1, v2⟩ := hed.vec i hi
      have hcl := (cmbN_ok (vs := x.2.1) (cs := (vecs p e.toNat).getD i default) (w := colN x.2.1) (gen_vec hG 0 (by have := hG.l0; omega)).1 (i := x.2.1.length)).1
      have hc1 := hG.c1
      show ((vecs p e.toNat).getD i default).length + (cmbN x.2.1 ((vecs p e.toNat).getD i default) x.2.1.length).length ≤ 24
      omega) (i := ((vecs p e.toNat).map (pkt1 x)).length) (Nat.le_refl _)
    rw [List.length_map] at h6 ⊢
    omega
  · rw [epL_no h]
    show sz_CodedPacketS [] ≤ 4096
    rw [szP_eq]; simp [psum]
end Go.Proofs.Ytbepgedckfhifaa
