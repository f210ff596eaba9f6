/-
  Suspects of the program returns what the reference's returns, for every argument.
-/
import Derived.Test.YtbepgedckfhifaaGreatSuJt
import Derived.Test.YtbepgedckfhifaaGreatSuJu
import Derived.Test.YtbepgedckfhifaaGreatSuFo
import Derived.Test.YtbepgedckfhifaaGreatSuVC
namespace Go.Proofs.YtbepgedckfhifaaGreat.fnExactSuspects
open Go.ChangeShapes Go.WideShapes Go.ChangeAt Go.RowKit Go.Deep
set_option linter.unusedVariables false
set_option linter.unusedSimpArgs false
set_option maxRecDepth 100000
set_option maxHeartbeats 4000000
attribute [local irreducible] Fn
theorem law (ky : Int) (a : HashKey_T) (b : Manifest_T) (l : LinkPacketS_T) (ha : W_HashKey a) (hb : W_Manifest b) (hl : W_LinkPacketS l) (hl' : ∀ i, i < l.length → W64 (l.getD i default).1) : Fn Tryz.prog 3 true (.cons (.I ky) (.cons (.agg (HashKey_R a)) (.cons (.agg (Manifest_R b)) (.cons (.rs false l.length 7 (cellsA LinkPacket_R l)) .nil)))) [] .tt [] := by
  (refine Fn_of tysOk Tryz.func3 rfl rfl (by simp [AV.len, Tryz.f3]) ⟨?_⟩; conv => whnf)
  by_cases hb0 : (1048576 : Int) < (sz_HashKey a : Nat)
  · have c0 := szHashKey_fn a ((1048576 : Int)) ha (by omega) (by omega)
    rw [if_pos hb0] at c0
    (repeat' first | ((with_reducible show ∃ _ : Bool, _); first | (refine ⟨_, [], _, [], _, _, c0, rfl, trivial, zW, Nx.mk ?_⟩; conv => whnf))  | (refine splitD (fun hs => Nx.mk ?_) (fun hs => Nx.mk ?_) <;> ((try simp only [Ct.len] at hs); revert hs; intro _; conv => whnf)) | (refine splitB (fun _ => Nx.mk ?_) (fun _ => Nx.mk ?_) <;> conv => whnf) | ((first | refine zA ?_ | refine zB ?_ | refine zC ?_ | refine zD ?_ | refine zE ?_ | refine zF ?_ | refine zG ?_ | fail); conv => whnf)|(refine nilQ (fun _ => Nx.mk ?_) (Nx.mk ?_) <;> conv => whnf) | ((first | refine condN Tryz.underlying4 (Nx.mk ?_) | refine zH ?_ | refine Nx.mk ?_); conv => whnf))
    (all_goals try first | contradiction | (exfalso; omega))
    all_goals (refine ⟨[], rfl, ⟨rfl, rfl, trivial, trivial⟩, ?_, ⟨?_, trivial⟩, fun _ => ⟨?_, trivial⟩⟩ <;> ((repeat' ((try conv => whnf); (first | exact zV | refine And.intro ?_ ?_ | refine cellJ (fun _ _ => ?_) | (refine cellB ?_; (conv => whnf); refine And.intro ?_ ?_) | fail))) <;> (try conv => whnf)))
  have c0 := szHashKey_fn a ((1048576 : Int)) ha (by omega) (by omega)
  rw [if_neg hb0] at c0
  by_cases hb1 : (1048576 : Int) - (sz_HashKey a : Nat) < (sz_Manifest b : Nat)
  · have c1 := szManifest_fn b ((1048576 : Int) - (sz_HashKey a : Nat)) hb (by omega) (by omega)
    rw [if_pos hb1] at c1
    (repeat' first | ((with_reducible show ∃ _ : Bool, _); first | (refine ⟨_, [], _, [], _, _, c0, rfl, trivial, zW, Nx.mk ?_⟩; conv => whnf)|(refine ⟨_, [], _, [], _, _, c1, rfl, trivial, zW, Nx.mk ?_⟩; conv => whnf))  | (refine splitD (fun hs => Nx.mk ?_) (fun hs => Nx.mk ?_) <;> ((try simp only [Ct.len] at hs); revert hs; intro _; conv => whnf)) | (refine splitB (fun _ => Nx.mk ?_) (fun _ => Nx.mk ?_) <;> conv => whnf) | ((first | refine zA ?_ | refine zB ?_ | refine zC ?_ | refine zD ?_ | refine zE ?_ | refine zF ?_ | refine zG ?_ | fail); conv => whnf)|(refine nilQ (fun _ => Nx.mk ?_) (Nx.mk ?_) <;> conv => whnf) | ((first | refine condN Tryz.underlying4 (Nx.mk ?_) | refine zH ?_ | refine Nx.mk ?_); conv => whnf))
    (all_goals try first | contradiction | (exfalso; omega))
    all_goals (refine ⟨[], rfl, ⟨rfl, rfl, trivial, trivial⟩, ?_, ⟨?_, trivial⟩, fun _ => ⟨?_, trivial⟩⟩ <;> ((repeat' ((try conv => whnf); (first | exact zV | refine And.intro ?_ ?_ | refine cellJ (fun _ _ => ?_) | (refine cellB ?_; (conv => whnf); refine And.intro ?_ ?_) | fail))) <;> (try conv => whnf)))
  have c1 := szManifest_fn b ((1048576 : Int) - (sz_HashKey a : Nat)) hb (by omega) (by omega)
  rw [if_neg hb1] at c1
  by_cases hb2 : (1048576 : Int) - (sz_HashKey a : Nat) - (sz_Manifest b : Nat) < (sz_LinkPacketS l : Nat)
  · have c2 := szLinkPacketS_fn l ((1048576 : Int) - (sz_HashKey a : Nat) - (sz_Manifest b : Nat)) hl (by omega) (by omega)
    rw [if_pos hb2] at c2
    (repeat' first | ((with_reducible show ∃ _ : Bool, _); first | (refine ⟨_, [], _, [], _, _, c0, rfl, trivial, zW, Nx.mk ?_⟩; conv => whnf)|(refine ⟨_, [], _, [], _, _, c1, rfl, trivial, zW, Nx.mk ?_⟩; conv => whnf)|(refine ⟨_, [], _, [], _, _, c2, rfl, trivial, zW, Nx.mk ?_⟩; conv => whnf))  | (refine splitD (fun hs => Nx.mk ?_) (fun hs => Nx.mk ?_) <;> ((try simp only [Ct.len] at hs); revert hs; intro _; conv => whnf)) | (refine splitB (fun _ => Nx.mk ?_) (fun _ => Nx.mk ?_) <;> conv => whnf) | ((first | refine zA ?_ | refine zB ?_ | refine zC ?_ | refine zD ?_ | refine zE ?_ | refine zF ?_ | refine zG ?_ | fail); conv => whnf)|(refine nilQ (fun _ => Nx.mk ?_) (Nx.mk ?_) <;> conv => whnf) | ((first | refine condN Tryz.underlying4 (Nx.mk ?_) | refine zH ?_ | refine Nx.mk ?_); conv => whnf))
    (all_goals try first | contradiction | (exfalso; omega))
    all_goals (refine ⟨[], rfl, ⟨rfl, rfl, trivial, trivial⟩, ?_, ⟨?_, trivial⟩, fun _ => ⟨?_, trivial⟩⟩ <;> ((repeat' ((try conv => whnf); (first | exact zV | refine And.intro ?_ ?_ | refine cellJ (fun _ _ => ?_) | (refine cellB ?_; (conv => whnf); refine And.intro ?_ ?_) | fail))) <;> (try conv => whnf)))
  have c2 := szLinkPacketS_fn l ((1048576 : Int) - (sz_HashKey a : Nat) - (sz_Manifest b : Nat)) hl (by omega) (by omega)
  rw [if_neg hb2] at c2
  have hln : l.length ≤ sz_LinkPacketS l := Nat.le_add_right _ _
  have hct := cL_tot (xs := l)
  have ln0 : (susL ky a b l).length ≤ 1048576 := Nat.le_trans susL_len (by omega)
  have ta := toHashKey_fn a (by omega)
  have tb := toManifest_fn b (by omega)
  have tl := toLinkPacketS_fn l (by omega)
  have s0 := sSus_fn ky a b l (by omega) (by omega) (by omega)
  have i0 := iSus_fn ky a b l (by omega) (by omega) (by omega) hl'
  have e0 := (eqIntS_fn (susL ky a b l) (susL ky a b l) ln0).tt (by simp)
  have ea := (eqHashKey_fn a a (by omega)).tt (by simp)
  have eb := (eqManifest_fn b b (by omega)).tt (by simp)
  have el := (eqLinkPacketS_fn l l (by omega)).tt (by simp)
  (
    (repeat' first | ((with_reducible show ∃ _ : Bool, _); first | (refine ⟨_, [], _, [], _, _, c0, rfl, trivial, zW, Nx.mk ?_⟩; conv => whnf)|(refine ⟨_, [], _, [], _, _, c1, rfl, trivial, zW, Nx.mk ?_⟩; conv => whnf)|(refine ⟨_, [], _, [], _, _, c2, rfl, trivial, zW, Nx.mk ?_⟩; conv => whnf))  | (refine splitD (fun hs => Nx.mk ?_) (fun hs => Nx.mk ?_) <;> ((try simp only [Ct.len] at hs); revert hs; intro _; conv => whnf)) | (refine splitB (fun _ => Nx.mk ?_) (fun _ => Nx.mk ?_) <;> conv => whnf) | ((first | refine zA ?_ | refine zB ?_ | refine zC ?_ | refine zD ?_ | refine zE ?_ | refine zF ?_ | refine zG ?_ | fail); conv => whnf)|(refine nilQ (fun _ => Nx.mk ?_) (Nx.mk ?_) <;> conv => whnf) | ((first | refine condN Tryz.underlying4 (Nx.mk ?_) | refine zH ?_ | refine Nx.mk ?_); conv => whnf))
    (all_goals try first | contradiction | (exfalso; omega))
    (try (refine VC_draw3 (sf := []) tysOk (by kernel_rfl) (by kernel_rfl) (Nx.mk ?_); conv => whnf))
    (repeat' first | ((with_reducible show ∃ _ : Bool, _); first | (refine ⟨_, [], _, [], _, _, ta, rfl, trivial, zW, Nx.mk ?_⟩; conv => whnf)|(refine ⟨_, [], _, [], _, _, tb, rfl, trivial, zW, Nx.mk ?_⟩; conv => whnf)|(refine ⟨_, [], _, [], _, _, tl, rfl, trivial, zW, Nx.mk ?_⟩; conv => whnf)|(refine ⟨_, [], _, [], _, _, s0, rfl, trivial, zW, Nx.mk ?_⟩; conv => whnf)|(refine ⟨_, [], _, [], _, _, i0, rfl, trivial, zW, Nx.mk ?_⟩; conv => whnf)|(refine ⟨_, [], _, [], _, _, e0, rfl, trivial, zW, Nx.mk ?_⟩; conv => whnf))  | (refine splitD (fun hs => Nx.mk ?_) (fun hs => Nx.mk ?_) <;> ((try simp only [Ct.len] at hs); revert hs; intro _; conv => whnf)) | (refine splitB (fun _ => Nx.mk ?_) (fun _ => Nx.mk ?_) <;> conv => whnf) | ((first | refine zA ?_ | refine zB ?_ | refine zC ?_ | refine zD ?_ | refine zE ?_ | refine zF ?_ | refine zG ?_ | fail); conv => whnf)|(refine nilQ (fun _ => Nx.mk ?_) (Nx.mk ?_) <;> conv => whnf) | ((first | refine condN Tryz.underlying4 (Nx.mk ?_) | refine zH ?_ | refine Nx.mk ?_); conv => whnf))
    (all_goals try first | contradiction | (exfalso; omega))
    (try (refine VC_draw3 (sf := []) tysOk (by kernel_rfl) (by kernel_rfl) (Nx.mk ?_); conv => whnf))
    (repeat' first | ((with_reducible show ∃ _ : Bool, _); first | (refine ⟨_, [], _, [], _, _, ea, rfl, trivial, zW, Nx.mk ?_⟩; conv => whnf)|(refine ⟨_, [], _, [], _, _, ta, rfl, trivial, zW, Nx.mk ?_⟩; conv => whnf))  | (refine splitD (fun hs => Nx.mk ?_) (fun hs => Nx.mk ?_) <;> ((try simp only [Ct.len] at hs); revert hs; intro _; conv => whnf)) | (refine splitB (fun _ => Nx.mk ?_) (fun _ => Nx.mk ?_) <;> conv => whnf) | ((first | refine zA ?_ | refine zB ?_ | refine zC ?_ | refine zD ?_ | refine zE ?_ | refine zF ?_ | refine zG ?_ | fail); conv => whnf)|(refine nilQ (fun _ => Nx.mk ?_) (Nx.mk ?_) <;> conv => whnf) | ((first | refine condN Tryz.underlying4 (Nx.mk ?_) | refine zH ?_ | refine Nx.mk ?_); conv => whnf))
    (all_goals try first | contradiction | (exfalso; omega))
    (try (refine VC_draw3 (sf := []) tysOk (by kernel_rfl) (by kernel_rfl) (Nx.mk ?_); conv => whnf))
    (repeat' first | ((with_reducible show ∃ _ : Bool, _); first | (refine ⟨_, [], _, [], _, _, eb, rfl, trivial, zW, Nx.mk ?_⟩; conv => whnf)|(refine ⟨_, [], _, [], _, _, tb, rfl, trivial, zW, Nx.mk ?_⟩; conv => whnf))  | (refine splitD (fun hs => Nx.mk ?_) (fun hs => Nx.mk ?_) <;> ((try simp only [Ct.len] at hs); revert hs; intro _; conv => whnf)) | (refine splitB (fun _ => Nx.mk ?_) (fun _ => Nx.mk ?_) <;> conv => whnf) | ((first | refine zA ?_ | refine zB ?_ | refine zC ?_ | refine zD ?_ | refine zE ?_ | refine zF ?_ | refine zG ?_ | fail); conv => whnf)|(refine nilQ (fun _ => Nx.mk ?_) (Nx.mk ?_) <;> conv => whnf) | ((first | refine condN Tryz.underlying4 (Nx.mk ?_) | refine zH ?_ | refine Nx.mk ?_); conv => whnf))
    (all_goals try first | contradiction | (exfalso; omega))
    (try (refine VC_draw3 (sf := []) tysOk (by kernel_rfl) (by kernel_rfl) (Nx.mk ?_); conv => whnf))
    (repeat' first | ((with_reducible show ∃ _ : Bool, _); first | (refine ⟨_, [], _, [], _, _, el, rfl, trivial, zW, Nx.mk ?_⟩; conv => whnf)|(refine ⟨_, [], _, [], _, _, tl, rfl, trivial, zW, Nx.mk ?_⟩; conv => whnf))  | (refine splitD (fun hs => Nx.mk ?_) (fun hs => Nx.mk ?_) <;> ((try simp only [Ct.len] at hs); revert hs; intro _; conv => whnf)) | (refine splitB (fun _ => Nx.mk ?_) (fun _ => Nx.mk ?_) <;> conv => whnf) | ((first | refine zA ?_ | refine zB ?_ | refine zC ?_ | refine zD ?_ | refine zE ?_ | refine zF ?_ | refine zG ?_ | fail); conv => whnf)|(refine nilQ (fun _ => Nx.mk ?_) (Nx.mk ?_) <;> conv => whnf) | ((first | refine condN Tryz.underlying4 (Nx.mk ?_) | refine zH ?_ | refine Nx.mk ?_); conv => whnf))
    (all_goals try first | contradiction | (exfalso; omega))
    have ma := markHashKey_fn a ((1 : Int)) (by omega) (by omega) (by omega)
    have mb := markManifest_fn b ((1 : Int) + (sz_HashKey a : Nat)) (by omega) (by omega) (by omega)
    have ml := markLinkPacketS_fn l ((1 : Int) + (sz_HashKey a : Nat) + (sz_Manifest b : Nat)) (by omega) (by omega) (by omega)
    have q0 := markIntS_fn (susL ky a b l) ((1 : Int)) (by omega) (by omega) (by omega)
    have w0 := heldIntS_fn ((1 : Int)) (susL ky a b l).length (by omega) (by omega) (by omega)
    (repeat' first | ((with_reducible show ∃ _ : Bool, _); first | (refine ⟨_, [rt (nm 43)], _, _, _, _, ma, rfl, zW, zW, Nx.mk ?_⟩; conv => whnf)|(refine ⟨_, [rt (nm 45)], _, _, _, _, mb, rfl, zW, zW, Nx.mk ?_⟩; conv => whnf)|(refine ⟨_, [rt (nm 47)], _, _, _, _, ml, rfl, zW, zW, Nx.mk ?_⟩; conv => whnf)|(refine ⟨_, [rt (nm 52)], _, _, _, _, q0, rfl, zW, zW, Nx.mk ?_⟩; conv => whnf)|(refine ⟨_, [], _, [], _, _, e0, rfl, trivial, zW, Nx.mk ?_⟩; conv => whnf)|(refine ⟨_, [], _, [], _, _, w0, rfl, trivial, zW, Nx.mk ?_⟩; conv => whnf))  | (refine splitD (fun hs => Nx.mk ?_) (fun hs => Nx.mk ?_) <;> ((try simp only [Ct.len] at hs); revert hs; intro _; conv => whnf)) | (refine splitB (fun _ => Nx.mk ?_) (fun _ => Nx.mk ?_) <;> conv => whnf) | ((first | refine zA ?_ | refine zB ?_ | refine zC ?_ | refine zD ?_ | refine zE ?_ | refine zF ?_ | refine zG ?_ | fail); conv => whnf)|(refine nilQ (fun _ => Nx.mk ?_) (Nx.mk ?_) <;> conv => whnf) | ((first | refine condN Tryz.underlying4 (Nx.mk ?_) | refine zH ?_ | refine Nx.mk ?_); conv => whnf))
    (all_goals try first | contradiction | (exfalso; omega))
    (try (refine VC_draw3 (sf := []) tysOk (by kernel_rfl) (by kernel_rfl) (Nx.mk ?_); conv => whnf))
    (repeat' first | ((with_reducible show ∃ _ : Bool, _); first | (refine ⟨_, [], _, [], _, _, ta, rfl, trivial, zW, Nx.mk ?_⟩; conv => whnf)|(refine ⟨_, [], _, [], _, _, tb, rfl, trivial, zW, Nx.mk ?_⟩; conv => whnf)|(refine ⟨_, [], _, [], _, _, tl, rfl, trivial, zW, Nx.mk ?_⟩; conv => whnf)|(refine ⟨_, [], _, [], _, _, i0, rfl, trivial, zW, Nx.mk ?_⟩; conv => whnf)|(refine ⟨_, [], _, [], _, _, e0, rfl, trivial, zW, Nx.mk ?_⟩; conv => whnf)|(refine ⟨_, [], _, [], _, _, w0, rfl, trivial, zW, Nx.mk ?_⟩; conv => whnf))  | (refine splitD (fun hs => Nx.mk ?_) (fun hs => Nx.mk ?_) <;> ((try simp only [Ct.len] at hs); revert hs; intro _; conv => whnf)) | (refine splitB (fun _ => Nx.mk ?_) (fun _ => Nx.mk ?_) <;> conv => whnf) | ((first | refine zA ?_ | refine zB ?_ | refine zC ?_ | refine zD ?_ | refine zE ?_ | refine zF ?_ | refine zG ?_ | fail); conv => whnf)|(refine nilQ (fun _ => Nx.mk ?_) (Nx.mk ?_) <;> conv => whnf) | ((first | refine condN Tryz.underlying4 (Nx.mk ?_) | refine zH ?_ | refine Nx.mk ?_); conv => whnf))
    (all_goals try first | contradiction | (exfalso; omega))
    all_goals (refine ⟨[], rfl, ⟨rfl, rfl, trivial, trivial⟩, ?_, ⟨?_, trivial⟩, fun _ => ⟨?_, trivial⟩⟩ <;> ((repeat' ((try conv => whnf); (first | exact zV | refine And.intro ?_ ?_ | refine cellJ (fun _ _ => ?_) | (refine cellB ?_; (conv => whnf); refine And.intro ?_ ?_) | fail))) <;> (try conv => whnf))))
theorem walk : LawWalk 3 Tryz.f3 := by
  intro H enc W base args ds p hval hA
  rw [Tryz.params3] at hA hval
  obtain ⟨v0, vs0, d0, ds0, p0, q0, hargs, rfl, rfl, h0, r0⟩ := trodAll_cons hA
  obtain ⟨v1, vs1, d1, ds1, p1, q1, rfl, rfl, rfl, h1, r1⟩ := trodAll_cons r0
  obtain ⟨v2, vs2, d2, ds2, p2, q2, rfl, rfl, rfl, h2, r2⟩ := trodAll_cons r1
  obtain ⟨v3, vs3, d3, ds3, p3, q3, rfl, rfl, rfl, h3, r3⟩ := trodAll_cons r2
  obtain ⟨rfl, rfl, rfl⟩ := trodAll_nil r3
  obtain rfl : args = #[v0, v1, v2, v3] := by cases args; simp_all
  obtain ⟨ky, oky, sky⟩ := arg_int Tryz.underlying3 (hval 0 _ v0 rfl rfl) h0
  obtain ⟨a, oa, sa⟩ := arg_struct Tryz.underlying24 opn_HashKey (hval 1 _ v1 rfl rfl) h1
  obtain ⟨b, ob, sb⟩ := arg_struct Tryz.underlying26 opn_Manifest (hval 2 _ v2 rfl rfl) h2
  obtain ⟨l, ol, sl⟩ := arg_slice Tryz.underlying27 opn_LinkPacketS (hval 3 _ v3 rfl rfl) h3
  exact law_of (law ky a b l (W_of_HashKey oa) (W_of_Manifest ob) (W_of_LinkPacketS ol) (w64_of ol)) (by intro N h; simp [AV.has] at h) (says_cons sky (says_cons sa (says_cons sb (says_cons sl says_nil))))
set_option maxRecDepth 100000 in
theorem over : Rows.fnExactSuspectsRow.holds Tryz.pinned (OpenSpec.ofChange Rows.fnExactSuspectsSpec) :=
  OpenClaim.holds_of_wide 3 Tryz.f3 rfl rfl rfl rfl rfl rfl rfl ⟨rfl, rfl, rfl, rfl, rfl⟩ rfl rfl rfl rfl rfl (by kernel_rfl) Tryz.func3 (by kernel_rfl)
    (of_decide_eq_true (by kernel_rfl)) (by unfold Func.isWrapper; first | (rw [if_pos (by decide +kernel)]; kernel_rfl) | (rw [if_neg (by decide +kernel)]; exact ⟨rfl, rfl⟩))
    (fun os started H enc _ => lifted_of (s := Rows.fnExactSuspectsSpec) (conds := Rows.fnExactSuspectsRow.domain) os started H enc (by kernel_rfl) Tryz.func3
      (ChangeSpec.witness6 (enc := enc) (C := Tryz.checked) false ⟨#[], #[.int .i64 0, .agg #[.slice none 0 0], .agg #[.int .i64 0, .int .i64 0, .int .i64 0, .int .i64 0, .slice none 0 0, .int .i64 0], .slice none 0 0], []⟩ 8 (by kernel_rfl) (by kernel_rfl) (by kernel_rfl) (by kernel_rfl))
      (by kernel_rfl) rfl (by kernel_rfl) (fun ds h => by match ds, h with | [d1, d2, d3, d4], _ => rfl) walk)
theorem proved : Rows.FnExactSuspectsSaid := over
#print axioms proved
end Go.Proofs.YtbepgedckfhifaaGreat.fnExactSuspects
