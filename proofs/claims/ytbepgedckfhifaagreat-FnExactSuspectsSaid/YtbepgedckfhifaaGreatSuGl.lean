/-
  Packets on links, hash keys, manifests, groups: to, sz, eq, mark.
-/
import Derived.Test.YtbepgedckfhifaaGreatSuFj
import Derived.Test.YtbepgedckfhifaaGreatSuFo
namespace Go.Proofs.YtbepgedckfhifaaGreat
set_option linter.unusedVariables false
set_option linter.unusedSimpArgs false
set_option maxRecDepth 100000
set_option maxHeartbeats 4000000
attribute [local irreducible] Fn
abbrev CodedPacket_T := (Int) × (List Int) × (List Int) × Unit
instance : DecidableEq CodedPacket_T := (@instDecidableEqProd _ _ inferInstance (@instDecidableEqProd _ _ inferInstance (@instDecidableEqProd _ _ inferInstance inferInstance)))
abbrev CodedPacket_R (x : CodedPacket_T) : AV := (.cons (.I (x.1)) (.cons (.ri false .i64 (x.2.1)) (.cons (.ri false .i64 (x.2.2.1)) .nil)))
abbrev CodedPacket_O (x : CodedPacket_T) : AV := (.cons (.I (x.1)) (.cons (.oi 3 .i64 (x.2.1)) (.cons (.oi 3 .i64 (x.2.2.1)) .nil)))
def sz_CodedPacket (x : CodedPacket_T) : Nat := (x.2.1).length + (x.2.2.1).length
def W_CodedPacket (x : CodedPacket_T) : Prop := (x.2.1).length ≤ 9223372036854775807 ∧ (x.2.2.1).length ≤ 9223372036854775807
theorem toCodedPacket_fn (x : CodedPacket_T) (h : sz_CodedPacket x ≤ 1048576) : Fn Tryz.prog 56 true (.cons (.agg (CodedPacket_R x)) .nil) [] (.agg (.cons (.I (x.1)) (.cons (.os (rt 16)) (.cons (.os (rt 17)) .nil)))) [(16, .row 3 (.ints .i64 (x.2.1))), (17, .row 3 (.ints .i64 (x.2.2.1)))] := by
  unfold sz_CodedPacket at h
  (refine Fn_of tysOk Tryz.func56 rfl rfl (by simp [AV.len, Tryz.f56]) ⟨?_⟩; conv => whnf)
  (repeat' first | ((with_reducible show ∃ _ : Bool, _); first | (refine ⟨_, [], _, [], _, _, toIntS_fn x.2.1 (by omega), rfl, trivial, zW, Nx.mk ?_⟩; conv => whnf)|(refine ⟨_, [], _, [], _, _, toIntS_fn x.2.2.1 (by omega), rfl, trivial, zW, Nx.mk ?_⟩; conv => whnf))  | (refine splitD (fun hs => Nx.mk ?_) (fun hs => Nx.mk ?_) <;> ((try simp only [Ct.len] at hs); revert hs; intro _; conv => whnf)) | (refine splitB (fun _ => Nx.mk ?_) (fun _ => Nx.mk ?_) <;> conv => whnf) | ((first | refine zA ?_ | refine zB ?_ | refine zC ?_ | refine zD ?_ | refine zE ?_ | refine zF ?_ | refine zG ?_ | fail); conv => whnf)|(refine nilQ (fun _ => Nx.mk ?_) (Nx.mk ?_) <;> conv => whnf) | ((first | refine condN Tryz.underlying4 (Nx.mk ?_) | refine zH ?_ | refine Nx.mk ?_); conv => whnf))
  refine ⟨[(16, nm 9), (17, nm 13)], rfl, ?_, ?_, ?_, fun _ => ?_⟩
  · ((try conv => whnf); refine ⟨rfl, by rfl, ?_, ?_⟩ <;> ((repeat' ((try conv => whnf); (first | exact zV | refine And.intro ?_ ?_ | refine cellJ (fun _ _ => ?_) | (refine cellB ?_; (conv => whnf); refine And.intro ?_ ?_) | fail))) <;> (try conv => whnf)))
  all_goals ((repeat' ((try conv => whnf); (first | exact zV | refine And.intro ?_ ?_ | refine cellJ (fun _ _ => ?_) | (refine cellB ?_; (conv => whnf); refine And.intro ?_ ?_) | fail))) <;> (try conv => whnf))
theorem szCodedPacket_fn (x : CodedPacket_T) (n : Int) (h : W_CodedPacket x) (h0 : 0 ≤ n) (h1 : n ≤ 1048576) : Fn Tryz.prog 52 true (.cons (.agg (CodedPacket_R x)) (.cons (.I n) .nil)) [] (.I (if n < (sz_CodedPacket x : Nat) then -1 else n - (sz_CodedPacket x : Nat))) [] := by
  have hz : sz_CodedPacket x = (x.2.1).length + (x.2.2.1).length := rfl
  obtain ⟨w1, w2⟩ := h
  (refine Fn_of tysOk Tryz.func52 rfl rfl (by simp [AV.len, Tryz.f52]) ⟨?_⟩; conv => whnf)
  have c1 := szIntS_fn x.2.1 (n) w1 (by omega) (by omega)
  by_cases b1 : (n : Int) < ((x.2.1).length : Nat)
  · rw [if_pos b1] at c1
    (repeat' first | ((with_reducible show ∃ _ : Bool, _); first | (refine ⟨_, [], _, [], _, _, c1, rfl, trivial, zW, Nx.mk ?_⟩; conv => whnf))  | (refine splitD (fun hs => Nx.mk ?_) (fun hs => Nx.mk ?_) <;> ((try simp only [Ct.len] at hs); revert hs; intro _; conv => whnf)) | (refine splitB (fun _ => Nx.mk ?_) (fun _ => Nx.mk ?_) <;> conv => whnf) | ((first | refine zA ?_ | refine zB ?_ | refine zC ?_ | refine zD ?_ | refine zE ?_ | refine zF ?_ | refine zG ?_ | fail); conv => whnf)|(refine nilQ (fun _ => Nx.mk ?_) (Nx.mk ?_) <;> conv => whnf) | ((first | refine condN Tryz.underlying4 (Nx.mk ?_) | refine zH ?_ | refine Nx.mk ?_); conv => whnf))
    (all_goals try first | contradiction | (exfalso; omega))
    all_goals ((refine ⟨[], rfl, ⟨rfl, rfl, trivial, trivial⟩, ?_, ⟨?_, trivial⟩, fun _ => ⟨?_, trivial⟩⟩ <;> ((repeat' ((try conv => whnf); (first | exact zV | refine And.intro ?_ ?_ | refine cellJ (fun _ _ => ?_) | (refine cellB ?_; (conv => whnf); refine And.intro ?_ ?_) | fail))) <;> (try conv => whnf))); try (rw [if_pos (by omega)]))
  rw [if_neg b1] at c1
  have c2 := szIntS_fn x.2.2.1 (n - ((x.2.1).length : Nat)) w2 (by omega) (by omega)
  by_cases b2 : (n - ((x.2.1).length : Nat) : Int) < ((x.2.2.1).length : Nat)
  · rw [if_pos b2] at c2
    (repeat' first | ((with_reducible show ∃ _ : Bool, _); first | (refine ⟨_, [], _, [], _, _, c1, rfl, trivial, zW, Nx.mk ?_⟩; conv => whnf)|(refine ⟨_, [], _, [], _, _, c2, rfl, trivial, zW, Nx.mk ?_⟩; conv => whnf))  | (refine splitD (fun hs => Nx.mk ?_) (fun hs => Nx.mk ?_) <;> ((try simp only [Ct.len] at hs); revert hs; intro _; conv => whnf)) | (refine splitB (fun _ => Nx.mk ?_) (fun _ => Nx.mk ?_) <;> conv => whnf) | ((first | refine zA ?_ | refine zB ?_ | refine zC ?_ | refine zD ?_ | refine zE ?_ | refine zF ?_ | refine zG ?_ | fail); conv => whnf)|(refine nilQ (fun _ => Nx.mk ?_) (Nx.mk ?_) <;> conv => whnf) | ((first | refine condN Tryz.underlying4 (Nx.mk ?_) | refine zH ?_ | refine Nx.mk ?_); conv => whnf))
    (all_goals try first | contradiction | (exfalso; omega))
    all_goals ((refine ⟨[], rfl, ⟨rfl, rfl, trivial, trivial⟩, ?_, ⟨?_, trivial⟩, fun _ => ⟨?_, trivial⟩⟩ <;> ((repeat' ((try conv => whnf); (first | exact zV | refine And.intro ?_ ?_ | refine cellJ (fun _ _ => ?_) | (refine cellB ?_; (conv => whnf); refine And.intro ?_ ?_) | fail))) <;> (try conv => whnf))); try (rw [if_pos (by omega)]))
  rw [if_neg b2] at c2
  (repeat' first | ((with_reducible show ∃ _ : Bool, _); first | (refine ⟨_, [], _, [], _, _, c1, rfl, trivial, zW, Nx.mk ?_⟩; conv => whnf)|(refine ⟨_, [], _, [], _, _, c2, rfl, trivial, zW, Nx.mk ?_⟩; conv => whnf))  | (refine splitD (fun hs => Nx.mk ?_) (fun hs => Nx.mk ?_) <;> ((try simp only [Ct.len] at hs); revert hs; intro _; conv => whnf)) | (refine splitB (fun _ => Nx.mk ?_) (fun _ => Nx.mk ?_) <;> conv => whnf) | ((first | refine zA ?_ | refine zB ?_ | refine zC ?_ | refine zD ?_ | refine zE ?_ | refine zF ?_ | refine zG ?_ | fail); conv => whnf)|(refine nilQ (fun _ => Nx.mk ?_) (Nx.mk ?_) <;> conv => whnf) | ((first | refine condN Tryz.underlying4 (Nx.mk ?_) | refine zH ?_ | refine Nx.mk ?_); conv => whnf))
  (all_goals try first | contradiction | (exfalso; omega))
  all_goals ((refine ⟨[], rfl, ⟨rfl, rfl, trivial, trivial⟩, ?_, ⟨?_, trivial⟩, fun _ => ⟨?_, trivial⟩⟩ <;> ((repeat' ((try conv => whnf); (first | exact zV | refine And.intro ?_ ?_ | refine cellJ (fun _ _ => ?_) | (refine cellB ?_; (conv => whnf); refine And.intro ?_ ?_) | fail))) <;> (try conv => whnf))); try (rw [if_neg (by omega)]; omega))
theorem eqCodedPacket_fn (x y : CodedPacket_T) (h : sz_CodedPacket x ≤ 1048576) : Fn Tryz.prog 63 true (.cons (.agg (CodedPacket_R x)) (.cons (.agg (CodedPacket_R y)) .nil)) [] (.b (decide (x = y))) [] := by
  unfold sz_CodedPacket at h
  (refine Fn_of tysOk Tryz.func63 rfl rfl (by simp [AV.len, Tryz.f63]) ⟨?_⟩; conv => whnf)
  (repeat' first | ((with_reducible show ∃ _ : Bool, _); first | (refine ⟨_, [], _, [], _, _, eqIntS_fn x.2.1 y.2.1 (by omega), rfl, trivial, zW, Nx.mk ?_⟩; conv => whnf)|(refine ⟨_, [], _, [], _, _, eqIntS_fn x.2.2.1 y.2.2.1 (by omega), rfl, trivial, zW, Nx.mk ?_⟩; conv => whnf))  | (refine splitD (fun hs => Nx.mk ?_) (fun hs => Nx.mk ?_) <;> ((try simp only [Ct.len] at hs); revert hs; intro _; conv => whnf)) | (refine splitB (fun _ => Nx.mk ?_) (fun _ => Nx.mk ?_) <;> conv => whnf) | ((first | refine zA ?_ | refine zB ?_ | refine zC ?_ | refine zD ?_ | refine zE ?_ | refine zF ?_ | refine zG ?_ | fail); conv => whnf)|(refine nilQ (fun _ => Nx.mk ?_) (Nx.mk ?_) <;> conv => whnf) | ((first | refine condN Tryz.underlying4 (Nx.mk ?_) | refine zH ?_ | refine Nx.mk ?_); conv => whnf))
  all_goals ((refine ⟨[], rfl, ⟨rfl, rfl, trivial, trivial⟩, ?_, ⟨?_, trivial⟩, fun _ => ⟨?_, trivial⟩⟩ <;> ((repeat' ((try conv => whnf); (first | exact zV | refine And.intro ?_ ?_ | refine cellJ (fun _ _ => ?_) | (refine cellB ?_; (conv => whnf); refine And.intro ?_ ?_) | fail))) <;> (try conv => whnf))); simp_all [Prod.ext_iff])
abbrev LinkPacket_T := (Int) × (Int) × (Int) × ((Int) × (List Int) × (List Int) × Unit) × (Int) × Unit
instance : DecidableEq LinkPacket_T := (@instDecidableEqProd _ _ inferInstance (@instDecidableEqProd _ _ inferInstance (@instDecidableEqProd _ _ inferInstance (@instDecidableEqProd _ _ inferInstance (@instDecidableEqProd _ _ inferInstance inferInstance)))))
abbrev LinkPacket_R (x : LinkPacket_T) : AV := (.cons (.I (x.1)) (.cons (.I (x.2.1)) (.cons (.I (x.2.2.1)) (.cons (.I (x.2.2.2.1.1)) (.cons (.ri false .i64 (x.2.2.2.1.2.1)) (.cons (.ri false .i64 (x.2.2.2.1.2.2.1)) (.cons (.I (x.2.2.2.2.1)) .nil)))))))
abbrev LinkPacket_O (x : LinkPacket_T) : AV := (.cons (.I (x.1)) (.cons (.I (x.2.1)) (.cons (.I (x.2.2.1)) (.cons (.I (x.2.2.2.1.1)) (.cons (.oi 3 .i64 (x.2.2.2.1.2.1)) (.cons (.oi 3 .i64 (x.2.2.2.1.2.2.1)) (.cons (.I (x.2.2.2.2.1)) .nil)))))))
def sz_LinkPacket (x : LinkPacket_T) : Nat := sz_CodedPacket (x.2.2.2.1)
def W_LinkPacket (x : LinkPacket_T) : Prop := W_CodedPacket (x.2.2.2.1)
theorem toLinkPacket_fn (x : LinkPacket_T) (h : sz_LinkPacket x ≤ 1048576) : Fn Tryz.prog 36 true (.cons (.agg (LinkPacket_R x)) .nil) [] (.agg (.cons (.I (x.1)) (.cons (.I (x.2.1)) (.cons (.I (x.2.2.1)) (.cons (.I (x.2.2.2.1.1)) (.cons (.os (rt 16)) (.cons (.os (rt 17)) (.cons (.I (x.2.2.2.2.1)) .nil)))))))) [(16, .row 3 (.ints .i64 (x.2.2.2.1.2.1))), (17, .row 3 (.ints .i64 (x.2.2.2.1.2.2.1)))] := by
  unfold sz_LinkPacket at h
  (refine Fn_of tysOk Tryz.func36 rfl rfl (by simp [AV.len, Tryz.f36]) ⟨?_⟩; conv => whnf)
  (repeat' first | ((with_reducible show ∃ _ : Bool, _); first | (refine ⟨_, [], _, [], _, _, toCodedPacket_fn x.2.2.2.1 (by omega), rfl, trivial, zW, Nx.mk ?_⟩; conv => whnf))  | (refine splitD (fun hs => Nx.mk ?_) (fun hs => Nx.mk ?_) <;> ((try simp only [Ct.len] at hs); revert hs; intro _; conv => whnf)) | (refine splitB (fun _ => Nx.mk ?_) (fun _ => Nx.mk ?_) <;> conv => whnf) | ((first | refine zA ?_ | refine zB ?_ | refine zC ?_ | refine zD ?_ | refine zE ?_ | refine zF ?_ | refine zG ?_ | fail); conv => whnf)|(refine nilQ (fun _ => Nx.mk ?_) (Nx.mk ?_) <;> conv => whnf) | ((first | refine condN Tryz.underlying4 (Nx.mk ?_) | refine zH ?_ | refine Nx.mk ?_); conv => whnf))
  refine ⟨[(16, nm 15), (17, nm 15 + 1)], rfl, ?_, ?_, ?_, fun _ => ?_⟩
  · ((try conv => whnf); refine ⟨rfl, by rfl, ?_, ?_⟩ <;> ((repeat' ((try conv => whnf); (first | exact zV | refine And.intro ?_ ?_ | refine cellJ (fun _ _ => ?_) | (refine cellB ?_; (conv => whnf); refine And.intro ?_ ?_) | fail))) <;> (try conv => whnf)))
  all_goals ((repeat' ((try conv => whnf); (first | exact zV | refine And.intro ?_ ?_ | refine cellJ (fun _ _ => ?_) | (refine cellB ?_; (conv => whnf); refine And.intro ?_ ?_) | fail))) <;> (try conv => whnf))
theorem szLinkPacket_fn (x : LinkPacket_T) (n : Int) (h : W_LinkPacket x) (h0 : 0 ≤ n) (h1 : n ≤ 1048576) : Fn Tryz.prog 33 true (.cons (.agg (LinkPacket_R x)) (.cons (.I n) .nil)) [] (.I (if n < (sz_LinkPacket x : Nat) then -1 else n - (sz_LinkPacket x : Nat))) [] := by
  have hz : sz_LinkPacket x = sz_CodedPacket (x.2.2.2.1) := rfl
  have w3 : W_CodedPacket (x.2.2.2.1) := h
  (refine Fn_of tysOk Tryz.func33 rfl rfl (by simp [AV.len, Tryz.f33]) ⟨?_⟩; conv => whnf)
  have c3 := szCodedPacket_fn x.2.2.2.1 (n) w3 (by omega) (by omega)
  by_cases b3 : (n : Int) < (sz_CodedPacket (x.2.2.2.1) : Nat)
  · rw [if_pos b3] at c3
    (repeat' first | ((with_reducible show ∃ _ : Bool, _); first | (refine ⟨_, [], _, [], _, _, c3, rfl, trivial, zW, Nx.mk ?_⟩; conv => whnf))  | (refine splitD (fun hs => Nx.mk ?_) (fun hs => Nx.mk ?_) <;> ((try simp only [Ct.len] at hs); revert hs; intro _; conv => whnf)) | (refine splitB (fun _ => Nx.mk ?_) (fun _ => Nx.mk ?_) <;> conv => whnf) | ((first | refine zA ?_ | refine zB ?_ | refine zC ?_ | refine zD ?_ | refine zE ?_ | refine zF ?_ | refine zG ?_ | fail); conv => whnf)|(refine nilQ (fun _ => Nx.mk ?_) (Nx.mk ?_) <;> conv => whnf) | ((first | refine condN Tryz.underlying4 (Nx.mk ?_) | refine zH ?_ | refine Nx.mk ?_); conv => whnf))
    (all_goals try first | contradiction | (exfalso; omega))
    all_goals ((refine ⟨[], rfl, ⟨rfl, rfl, trivial, trivial⟩, ?_, ⟨?_, trivial⟩, fun _ => ⟨?_, trivial⟩⟩ <;> ((repeat' ((try conv => whnf); (first | exact zV | refine And.intro ?_ ?_ | refine cellJ (fun _ _ => ?_) | (refine cellB ?_; (conv => whnf); refine And.intro ?_ ?_) | fail))) <;> (try conv => whnf))); try (rw [if_pos (by omega)]))
  rw [if_neg b3] at c3
  (repeat' first | ((with_reducible show ∃ _ : Bool, _); first | (refine ⟨_, [], _, [], _, _, c3, rfl, trivial, zW, Nx.mk ?_⟩; conv => whnf))  | (refine splitD (fun hs => Nx.mk ?_) (fun hs => Nx.mk ?_) <;> ((try simp only [Ct.len] at hs); revert hs; intro _; conv => whnf)) | (refine splitB (fun _ => Nx.mk ?_) (fun _ => Nx.mk ?_) <;> conv => whnf) | ((first | refine zA ?_ | refine zB ?_ | refine zC ?_ | refine zD ?_ | refine zE ?_ | refine zF ?_ | refine zG ?_ | fail); conv => whnf)|(refine nilQ (fun _ => Nx.mk ?_) (Nx.mk ?_) <;> conv => whnf) | ((first | refine condN Tryz.underlying4 (Nx.mk ?_) | refine zH ?_ | refine Nx.mk ?_); conv => whnf))
  (all_goals try first | contradiction | (exfalso; omega))
  all_goals ((refine ⟨[], rfl, ⟨rfl, rfl, trivial, trivial⟩, ?_, ⟨?_, trivial⟩, fun _ => ⟨?_, trivial⟩⟩ <;> ((repeat' ((try conv => whnf); (first | exact zV | refine And.intro ?_ ?_ | refine cellJ (fun _ _ => ?_) | (refine cellB ?_; (conv => whnf); refine And.intro ?_ ?_) | fail))) <;> (try conv => whnf))); try (rw [if_neg (by omega)]; omega))
theorem eqLinkPacket_fn (x y : LinkPacket_T) (h : sz_LinkPacket x ≤ 1048576) : Fn Tryz.prog 40 true (.cons (.agg (LinkPacket_R x)) (.cons (.agg (LinkPacket_R y)) .nil)) [] (.b (decide (x = y))) [] := by
  unfold sz_LinkPacket at h
  (refine Fn_of tysOk Tryz.func40 rfl rfl (by simp [AV.len, Tryz.f40]) ⟨?_⟩; conv => whnf)
  (repeat' first | ((with_reducible show ∃ _ : Bool, _); first | (refine ⟨_, [], _, [], _, _, eqCodedPacket_fn x.2.2.2.1 y.2.2.2.1 (by omega), rfl, trivial, zW, Nx.mk ?_⟩; conv => whnf))  | (refine splitD (fun hs => Nx.mk ?_) (fun hs => Nx.mk ?_) <;> ((try simp only [Ct.len] at hs); revert hs; intro _; conv => whnf)) | (refine splitB (fun _ => Nx.mk ?_) (fun _ => Nx.mk ?_) <;> conv => whnf) | ((first | refine zA ?_ | refine zB ?_ | refine zC ?_ | refine zD ?_ | refine zE ?_ | refine zF ?_ | refine zG ?_ | fail); conv => whnf)|(refine nilQ (fun _ => Nx.mk ?_) (Nx.mk ?_) <;> conv => whnf) | ((first | refine condN Tryz.underlying4 (Nx.mk ?_) | refine zH ?_ | refine Nx.mk ?_); conv => whnf))
  all_goals ((refine ⟨[], rfl, ⟨rfl, rfl, trivial, trivial⟩, ?_, ⟨?_, trivial⟩, fun _ => ⟨?_, trivial⟩⟩ <;> ((repeat' ((try conv => whnf); (first | exact zV | refine And.intro ?_ ?_ | refine cellJ (fun _ _ => ?_) | (refine cellB ?_; (conv => whnf); refine And.intro ?_ ?_) | fail))) <;> (try conv => whnf))); simp_all [Prod.ext_iff])
abbrev LinkPacketS_T := List ((Int) × (Int) × (Int) × ((Int) × (List Int) × (List Int) × Unit) × (Int) × Unit)
def sz_LinkPacketS (xs : LinkPacketS_T) : Nat := tot (fun x : (Int) × (Int) × (Int) × ((Int) × (List Int) × (List Int) × Unit) × (Int) × Unit => sz_LinkPacket (x)) xs
def W_LinkPacketS (xs : LinkPacketS_T) : Prop := xs.length ≤ 9223372036854775807 ∧ ∀ i, i < xs.length → W_LinkPacket (xs.getD i default)
theorem toLinkPacketS_fn (xs : LinkPacketS_T) (h : sz_LinkPacketS xs ≤ 1048576) : Fn Tryz.prog 11 true (.cons (.rs false xs.length 7 (cellsA LinkPacket_R xs)) .nil) [] (.os (rt 16)) [(16, .row 74 (.tab xs.length 7 (cellsA LinkPacket_O xs)))] := by
  unfold sz_LinkPacketS at h
  have htt : tot (fun x : (Int) × (Int) × (Int) × ((Int) × (List Int) × (List Int) × Unit) × (Int) × Unit => sz_LinkPacket (x)) xs = xs.length + psum (fun x : (Int) × (Int) × (Int) × ((Int) × (List Int) × (List Int) × Unit) × (Int) × Unit => sz_LinkPacket (x)) xs xs.length := rfl
  (refine Fn_of tysOk Tryz.func11 rfl rfl (by simp [AV.len, Tryz.f11]) ⟨?_⟩; conv => whnf)
  (repeat' first | (refine splitD (fun hs => Nx.mk ?_) (fun hs => Nx.mk ?_) <;> ((try simp only [Ct.len] at hs); revert hs; intro _; conv => whnf)) | (refine splitB (fun _ => Nx.mk ?_) (fun _ => Nx.mk ?_) <;> conv => whnf) | ((first | refine zA ?_ | refine zB ?_ | refine zC ?_ | refine zD ?_ | refine zE ?_ | refine zF ?_ | refine zG ?_ | fail); conv => whnf)|(refine nilQ (fun _ => Nx.mk ?_) (Nx.mk ?_) <;> conv => whnf) | ((first | refine condN Tryz.underlying4 (Nx.mk ?_) | refine zH ?_ | refine Nx.mk ?_); conv => whnf))
  refine loopI tysOk [nm 20, nm 20 + 1] (fun i : Nat => [(4, .I i)]) (fun i => [(nm 7, some (.row 74 (.tab xs.length 7 (fun k j => (LinkPacket_O (upTo default xs i k)).nth j))))]) (· ≤ xs.length) (fun i => xs.length - i) 0 (Nat.zero_le _) ?_ ?_
  · ((try conv => whnf); refine ⟨rfl, by rfl, ?_, ?_⟩ <;> ((repeat' ((try conv => whnf); (first | exact zV | refine And.intro ?_ ?_ | refine cellJ (fun _ _ => ?_) | (refine cellB ?_; (conv => whnf); refine And.intro ?_ ?_) | fail))) <;> (try conv => whnf)))
    all_goals (simp only [upTo_zero]; ((repeat' ((try conv => whnf); (first | exact zV | refine And.intro ?_ ?_ | refine cellJ (fun _ _ => ?_) | (refine cellB ?_; (conv => whnf); refine And.intro ?_ ?_) | fail))) <;> (try conv => whnf)))
  · intro i hi
    (repeat' first | (refine splitD (fun hs => Nx.mk ?_) (fun hs => Nx.mk ?_) <;> ((try simp only [Ct.len] at hs); revert hs; intro _; conv => whnf)) | (refine splitB (fun _ => Nx.mk ?_) (fun _ => Nx.mk ?_) <;> conv => whnf) | ((first | refine zA ?_ | refine zB ?_ | refine zC ?_ | refine zD ?_ | refine zE ?_ | refine zF ?_ | refine zG ?_ | fail); conv => whnf)|(refine nilQ (fun _ => Nx.mk ?_) (Nx.mk ?_) <;> conv => whnf) | ((first | refine condN Tryz.underlying4 (Nx.mk ?_) | refine zH ?_ | refine Nx.mk ?_); conv => whnf))
    · have hi' : i < xs.length := by omega
      have ht := tot_at (sz := fun x : (Int) × (Int) × (Int) × ((Int) × (List Int) × (List Int) × Unit) × (Int) × Unit => sz_LinkPacket (x)) hi'
      (try simp only at ht)
      (repeat' first | ((with_reducible show ∃ _ : Bool, _); first | (refine ⟨_, [], _, [], _, _, toLinkPacket_fn (xs.getD i default) (by omega), rfl, trivial, zW, Nx.mk ?_⟩; conv => whnf))  | (refine splitD (fun hs => Nx.mk ?_) (fun hs => Nx.mk ?_) <;> ((try simp only [Ct.len] at hs); revert hs; intro _; conv => whnf)) | (refine splitB (fun _ => Nx.mk ?_) (fun _ => Nx.mk ?_) <;> conv => whnf) | ((first | refine zA ?_ | refine zB ?_ | refine zC ?_ | refine zD ?_ | refine zE ?_ | refine zF ?_ | refine zG ?_ | fail); conv => whnf)|(refine nilQ (fun _ => Nx.mk ?_) (Nx.mk ?_) <;> conv => whnf) | ((first | refine condN Tryz.underlying4 (Nx.mk ?_) | refine zH ?_ | refine Nx.mk ?_); conv => whnf))
      refine ⟨i + 1, by omega, by omega, ?_⟩
      ((try conv => whnf); refine ⟨rfl, by rfl, ?_, ?_⟩ <;> ((repeat' ((try conv => whnf); (first | exact zV | refine And.intro ?_ ?_ | refine cellJ (fun _ _ => ?_) | (refine cellB ?_; (conv => whnf); refine And.intro ?_ ?_) | fail))) <;> (try conv => whnf)))
      all_goals
        rename_i k hk
        by_cases e : k = i
        · subst e
          simp only [Nat.beq_refl, upTo_self, Ct.kill, Ct.put, Ct.cell, Bool.and_true, Bool.true_and]
          ((repeat' ((try conv => whnf); (first | exact zV | refine And.intro ?_ ?_ | refine cellJ (fun _ _ => ?_) | (refine cellB ?_; (conv => whnf); refine And.intro ?_ ?_) | fail))) <;> (try conv => whnf))
        · simp only [beq_ne e, upTo_ne e, Ct.kill, Ct.put, Ct.cell, Bool.and_false, Bool.false_and, cond_false]
          ((repeat' ((try conv => whnf); (first | exact zV | refine And.intro ?_ ?_ | refine cellJ (fun _ _ => ?_) | (refine cellB ?_; (conv => whnf); refine And.intro ?_ ?_) | fail))) <;> (try conv => whnf))
    · refine ⟨[(16, nm 7)], rfl, ?_, ?_, ?_, fun _ => ?_⟩
      · ((try conv => whnf); refine ⟨rfl, by rfl, ?_, ?_⟩ <;> ((repeat' ((try conv => whnf); (first | exact zV | refine And.intro ?_ ?_ | refine cellJ (fun _ _ => ?_) | (refine cellB ?_; (conv => whnf); refine And.intro ?_ ?_) | fail))) <;> (try conv => whnf)))
        all_goals rw [upTo_all (i := i) (by omega)]
      all_goals ((repeat' ((try conv => whnf); (first | exact zV | refine And.intro ?_ ?_ | refine cellJ (fun _ _ => ?_) | (refine cellB ?_; (conv => whnf); refine And.intro ?_ ?_) | fail))) <;> (try conv => whnf))
theorem szLinkPacketS_fn (xs : LinkPacketS_T) (n : Int) (h : W_LinkPacketS xs) (h0 : 0 ≤ n) (h1 : n ≤ 1048576) : Fn Tryz.prog 7 true (.cons (.rs false xs.length 7 (cellsA LinkPacket_R xs)) (.cons (.I n) .nil)) [] (.I (if n < (sz_LinkPacketS xs : Nat) then -1 else n - (sz_LinkPacketS xs : Nat))) [] := by
  have hz : sz_LinkPacketS xs = xs.length + psum (fun x : (Int) × (Int) × (Int) × ((Int) × (List Int) × (List Int) × Unit) × (Int) × Unit => sz_LinkPacket (x)) xs xs.length := rfl
  obtain ⟨hw, hx⟩ := h
  (refine Fn_of tysOk Tryz.func7 rfl rfl (by simp [AV.len, Tryz.f7]) ⟨?_⟩; conv => whnf)
  (repeat' first | (refine splitD (fun hs => Nx.mk ?_) (fun hs => Nx.mk ?_) <;> ((try simp only [Ct.len] at hs); revert hs; intro _; conv => whnf)) | (refine splitB (fun _ => Nx.mk ?_) (fun _ => Nx.mk ?_) <;> conv => whnf) | ((first | refine zA ?_ | refine zB ?_ | refine zC ?_ | refine zD ?_ | refine zE ?_ | refine zF ?_ | refine zG ?_ | fail); conv => whnf)|(refine nilQ (fun _ => Nx.mk ?_) (Nx.mk ?_) <;> conv => whnf) | ((first | refine condN Tryz.underlying4 (Nx.mk ?_) | refine zH ?_ | refine Nx.mk ?_); conv => whnf))
  · (refine ⟨[], rfl, ⟨rfl, rfl, trivial, trivial⟩, ?_, ⟨?_, trivial⟩, fun _ => ⟨?_, trivial⟩⟩ <;> ((repeat' ((try conv => whnf); (first | exact zV | refine And.intro ?_ ?_ | refine cellJ (fun _ _ => ?_) | (refine cellB ?_; (conv => whnf); refine And.intro ?_ ?_) | fail))) <;> (try conv => whnf)))
    rw [if_pos (by omega)]
  · refine loopI tysOk [] (fun i : Nat => [(5, .I i), (1, .I (n - xs.length - (psum (fun x : (Int) × (Int) × (Int) × ((Int) × (List Int) × (List Int) × Unit) × (Int) × Unit => sz_LinkPacket (x)) xs i : Nat)))]) (fun i => []) (fun i => i ≤ xs.length ∧ (psum (fun x : (Int) × (Int) × (Int) × ((Int) × (List Int) × (List Int) × Unit) × (Int) × Unit => sz_LinkPacket (x)) xs i : Nat) ≤ n - xs.length) (fun i => xs.length - i) 0 ⟨Nat.zero_le _, by simp [psum]; omega⟩ ?_ ?_
    · ((try conv => whnf); refine ⟨rfl, by rfl, ?_, ?_⟩ <;> ((repeat' ((try conv => whnf); (first | exact zV | refine And.intro ?_ ?_ | refine cellJ (fun _ _ => ?_) | (refine cellB ?_; (conv => whnf); refine And.intro ?_ ?_) | fail))) <;> (try conv => whnf)))
      simp [psum]
    · rintro i ⟨hi, hs⟩
      (repeat' first | (refine splitD (fun hs => Nx.mk ?_) (fun hs => Nx.mk ?_) <;> ((try simp only [Ct.len] at hs); revert hs; intro _; conv => whnf)) | (refine splitB (fun _ => Nx.mk ?_) (fun _ => Nx.mk ?_) <;> conv => whnf) | ((first | refine zA ?_ | refine zB ?_ | refine zC ?_ | refine zD ?_ | refine zE ?_ | refine zF ?_ | refine zG ?_ | fail); conv => whnf)|(refine nilQ (fun _ => Nx.mk ?_) (Nx.mk ?_) <;> conv => whnf) | ((first | refine condN Tryz.underlying4 (Nx.mk ?_) | refine zH ?_ | refine Nx.mk ?_); conv => whnf))
      · have hi' : i < xs.length := by omega
        have hc := szLinkPacket_fn (xs.getD i default) (n - xs.length - (psum (fun x : (Int) × (Int) × (Int) × ((Int) × (List Int) × (List Int) × Unit) × (Int) × Unit => sz_LinkPacket (x)) xs i : Nat)) (hx i hi') (by omega) (by omega)
        have hp : psum (fun x : (Int) × (Int) × (Int) × ((Int) × (List Int) × (List Int) × Unit) × (Int) × Unit => sz_LinkPacket (x)) xs (i + 1) = psum (fun x : (Int) × (Int) × (Int) × ((Int) × (List Int) × (List Int) × Unit) × (Int) × Unit => sz_LinkPacket (x)) xs i + sz_LinkPacket (xs.getD i default) := psum_succ hi'
        have hq := psum_le (sz := (fun x : (Int) × (Int) × (Int) × ((Int) × (List Int) × (List Int) × Unit) × (Int) × Unit => sz_LinkPacket (x))) (xs := xs) (i := i + 1) (j := xs.length) (by omega) (Nat.le_refl _)
        by_cases hb : n - xs.length - (psum (fun x : (Int) × (Int) × (Int) × ((Int) × (List Int) × (List Int) × Unit) × (Int) × Unit => sz_LinkPacket (x)) xs i : Nat) < (sz_LinkPacket (xs.getD i default) : Nat)
        · rw [if_pos hb] at hc
          (repeat' first | ((with_reducible show ∃ _ : Bool, _); first | (refine ⟨_, [], _, [], _, _, hc, rfl, trivial, zW, Nx.mk ?_⟩; conv => whnf))  | (refine splitD (fun hs => Nx.mk ?_) (fun hs => Nx.mk ?_) <;> ((try simp only [Ct.len] at hs); revert hs; intro _; conv => whnf)) | (refine splitB (fun _ => Nx.mk ?_) (fun _ => Nx.mk ?_) <;> conv => whnf) | ((first | refine zA ?_ | refine zB ?_ | refine zC ?_ | refine zD ?_ | refine zE ?_ | refine zF ?_ | refine zG ?_ | fail); conv => whnf)|(refine nilQ (fun _ => Nx.mk ?_) (Nx.mk ?_) <;> conv => whnf) | ((first | refine condN Tryz.underlying4 (Nx.mk ?_) | refine zH ?_ | refine Nx.mk ?_); conv => whnf))
          (all_goals try first | contradiction | (exfalso; omega))
          (refine ⟨[], rfl, ⟨rfl, rfl, trivial, trivial⟩, ?_, ⟨?_, trivial⟩, fun _ => ⟨?_, trivial⟩⟩ <;> ((repeat' ((try conv => whnf); (first | exact zV | refine And.intro ?_ ?_ | refine cellJ (fun _ _ => ?_) | (refine cellB ?_; (conv => whnf); refine And.intro ?_ ?_) | fail))) <;> (try conv => whnf)))
          rw [if_pos (by omega)]
        · rw [if_neg hb] at hc
          (repeat' first | ((with_reducible show ∃ _ : Bool, _); first | (refine ⟨_, [], _, [], _, _, hc, rfl, trivial, zW, Nx.mk ?_⟩; conv => whnf))  | (refine splitD (fun hs => Nx.mk ?_) (fun hs => Nx.mk ?_) <;> ((try simp only [Ct.len] at hs); revert hs; intro _; conv => whnf)) | (refine splitB (fun _ => Nx.mk ?_) (fun _ => Nx.mk ?_) <;> conv => whnf) | ((first | refine zA ?_ | refine zB ?_ | refine zC ?_ | refine zD ?_ | refine zE ?_ | refine zF ?_ | refine zG ?_ | fail); conv => whnf)|(refine nilQ (fun _ => Nx.mk ?_) (Nx.mk ?_) <;> conv => whnf) | ((first | refine condN Tryz.underlying4 (Nx.mk ?_) | refine zH ?_ | refine Nx.mk ?_); conv => whnf))
          (all_goals try first | contradiction | (exfalso; omega))
          refine ⟨i + 1, ⟨by omega, by omega⟩, by omega, ?_⟩
          ((try conv => whnf); refine ⟨rfl, by rfl, ?_, ?_⟩ <;> ((repeat' ((try conv => whnf); (first | exact zV | refine And.intro ?_ ?_ | refine cellJ (fun _ _ => ?_) | (refine cellB ?_; (conv => whnf); refine And.intro ?_ ?_) | fail))) <;> (try conv => whnf)))
          omega
      · have e : i = xs.length := by omega
        subst e
        (refine ⟨[], rfl, ⟨rfl, rfl, trivial, trivial⟩, ?_, ⟨?_, trivial⟩, fun _ => ⟨?_, trivial⟩⟩ <;> ((repeat' ((try conv => whnf); (first | exact zV | refine And.intro ?_ ?_ | refine cellJ (fun _ _ => ?_) | (refine cellB ?_; (conv => whnf); refine And.intro ?_ ?_) | fail))) <;> (try conv => whnf)))
        rw [if_neg (by omega)]
        omega
theorem eqLinkPacketS_fn (xs ys : LinkPacketS_T) (h : sz_LinkPacketS xs ≤ 1048576) : Fn Tryz.prog 16 true (.cons (.rs false xs.length 7 (cellsA LinkPacket_R xs)) (.cons (.rs false ys.length 7 (cellsA LinkPacket_R ys)) .nil)) [] (.b (decide (xs = ys))) [] := by
  unfold sz_LinkPacketS at h
  have htt : tot (fun x : (Int) × (Int) × (Int) × ((Int) × (List Int) × (List Int) × Unit) × (Int) × Unit => sz_LinkPacket (x)) xs = xs.length + psum (fun x : (Int) × (Int) × (Int) × ((Int) × (List Int) × (List Int) × Unit) × (Int) × Unit => sz_LinkPacket (x)) xs xs.length := rfl
  (refine Fn_of tysOk Tryz.func16 rfl rfl (by simp [AV.len, Tryz.f16]) ⟨?_⟩; conv => whnf)
  (repeat' first | (refine splitD (fun hs => Nx.mk ?_) (fun hs => Nx.mk ?_) <;> ((try simp only [Ct.len] at hs); revert hs; intro _; conv => whnf)) | (refine splitB (fun _ => Nx.mk ?_) (fun _ => Nx.mk ?_) <;> conv => whnf) | ((first | refine zA ?_ | refine zB ?_ | refine zC ?_ | refine zD ?_ | refine zE ?_ | refine zF ?_ | refine zG ?_ | fail); conv => whnf)|(refine nilQ (fun _ => Nx.mk ?_) (Nx.mk ?_) <;> conv => whnf) | ((first | refine condN Tryz.underlying4 (Nx.mk ?_) | refine zH ?_ | refine Nx.mk ?_); conv => whnf))
  · (refine ⟨[], rfl, ⟨rfl, rfl, trivial, trivial⟩, ?_, ⟨?_, trivial⟩, fun _ => ⟨?_, trivial⟩⟩ <;> ((repeat' ((try conv => whnf); (first | exact zV | refine And.intro ?_ ?_ | refine cellJ (fun _ _ => ?_) | (refine cellB ?_; (conv => whnf); refine And.intro ?_ ?_) | fail))) <;> (try conv => whnf)))
    rename_i h1
    have : xs ≠ ys := fun e => h1 (by rw [e])
    simp [this]
  rename_i hl
  have hl : xs.length = ys.length := by omega
  refine loopI tysOk [] (fun i : Nat => [(5, .I i)]) (fun i => []) (fun i => i ≤ xs.length ∧ ∀ k, k < i → xs.getD k default = ys.getD k default) (fun i => xs.length - i) 0 ⟨Nat.zero_le _, fun k hk => absurd hk (by omega)⟩ ?_ ?_
  · ((try conv => whnf); refine ⟨rfl, by rfl, ?_, ?_⟩ <;> ((repeat' ((try conv => whnf); (first | exact zV | refine And.intro ?_ ?_ | refine cellJ (fun _ _ => ?_) | (refine cellB ?_; (conv => whnf); refine And.intro ?_ ?_) | fail))) <;> (try conv => whnf)))
  · rintro i ⟨hi, hall⟩
    (repeat' first | (refine splitD (fun hs => Nx.mk ?_) (fun hs => Nx.mk ?_) <;> ((try simp only [Ct.len] at hs); revert hs; intro _; conv => whnf)) | (refine splitB (fun _ => Nx.mk ?_) (fun _ => Nx.mk ?_) <;> conv => whnf) | ((first | refine zA ?_ | refine zB ?_ | refine zC ?_ | refine zD ?_ | refine zE ?_ | refine zF ?_ | refine zG ?_ | fail); conv => whnf)|(refine nilQ (fun _ => Nx.mk ?_) (Nx.mk ?_) <;> conv => whnf) | ((first | refine condN Tryz.underlying4 (Nx.mk ?_) | refine zH ?_ | refine Nx.mk ?_); conv => whnf))
    · have hi' : i < xs.length := by omega
      have ht := tot_at (sz := fun x : (Int) × (Int) × (Int) × ((Int) × (List Int) × (List Int) × Unit) × (Int) × Unit => sz_LinkPacket (x)) hi'
      (try simp only at ht)
      have hc := eqLinkPacket_fn (xs.getD i default) (ys.getD i default) (by omega)
      (try (refine VC_draw (sf := []) tysOk (by kernel_rfl) (by kernel_rfl) (Nx.mk ?_); conv => whnf))
      (repeat' first | ((with_reducible show ∃ _ : Bool, _); first | (refine ⟨_, [], _, [], _, _, hc, rfl, trivial, zW, Nx.mk ?_⟩; conv => whnf))  | (refine splitD (fun hs => Nx.mk ?_) (fun hs => Nx.mk ?_) <;> ((try simp only [Ct.len] at hs); revert hs; intro _; conv => whnf)) | (refine splitB (fun _ => Nx.mk ?_) (fun _ => Nx.mk ?_) <;> conv => whnf) | ((first | refine zA ?_ | refine zB ?_ | refine zC ?_ | refine zD ?_ | refine zE ?_ | refine zF ?_ | refine zG ?_ | fail); conv => whnf)|(refine nilQ (fun _ => Nx.mk ?_) (Nx.mk ?_) <;> conv => whnf) | ((first | refine condN Tryz.underlying4 (Nx.mk ?_) | refine zH ?_ | refine Nx.mk ?_); conv => whnf))
      · rename_i h1
        refine ⟨i + 1, ⟨by omega, fun k hk => ?_⟩, by omega, ?_⟩
        · by_cases e : k = i
          · rw [e]; exact h1
          · exact hall k (by omega)
        · ((try conv => whnf); refine ⟨rfl, by rfl, ?_, ?_⟩ <;> ((repeat' ((try conv => whnf); (first | exact zV | refine And.intro ?_ ?_ | refine cellJ (fun _ _ => ?_) | (refine cellB ?_; (conv => whnf); refine And.intro ?_ ?_) | fail))) <;> (try conv => whnf)))
      · (refine ⟨[], rfl, ⟨rfl, rfl, trivial, trivial⟩, ?_, ⟨?_, trivial⟩, fun _ => ⟨?_, trivial⟩⟩ <;> ((repeat' ((try conv => whnf); (first | exact zV | refine And.intro ?_ ?_ | refine cellJ (fun _ _ => ?_) | (refine cellB ?_; (conv => whnf); refine And.intro ?_ ?_) | fail))) <;> (try conv => whnf)))
        rename_i h1
        have : xs ≠ ys := fun e => h1 (by rw [e])
        simp [this]
    · (refine ⟨[], rfl, ⟨rfl, rfl, trivial, trivial⟩, ?_, ⟨?_, trivial⟩, fun _ => ⟨?_, trivial⟩⟩ <;> ((repeat' ((try conv => whnf); (first | exact zV | refine And.intro ?_ ?_ | refine cellJ (fun _ _ => ?_) | (refine cellB ?_; (conv => whnf); refine And.intro ?_ ?_) | fail))) <;> (try conv => whnf)))
      have : xs = ys := ext_getD hl (fun k hk => hall k (by omega))
      simp [this]
abbrev HashKey_T := (List Int) × Unit
instance : DecidableEq HashKey_T := (@instDecidableEqProd _ _ inferInstance inferInstance)
abbrev HashKey_R (x : HashKey_T) : AV := (.cons (.ri false .i64 (x.1)) .nil)
abbrev HashKey_O (x : HashKey_T) : AV := (.cons (.oi 3 .i64 (x.1)) .nil)
def sz_HashKey (x : HashKey_T) : Nat := (x.1).length
def W_HashKey (x : HashKey_T) : Prop := (x.1).length ≤ 9223372036854775807
theorem toHashKey_fn (x : HashKey_T) (h : sz_HashKey x ≤ 1048576) : Fn Tryz.prog 9 true (.cons (.agg (HashKey_R x)) .nil) [] (.agg (.cons (.os (rt 16)) .nil)) [(16, .row 3 (.ints .i64 (x.1)))] := by
  unfold sz_HashKey at h
  (refine Fn_of tysOk Tryz.func9 rfl rfl (by simp [AV.len, Tryz.f9]) ⟨?_⟩; conv => whnf)
  (repeat' first | ((with_reducible show ∃ _ : Bool, _); first | (refine ⟨_, [], _, [], _, _, toIntS_fn x.1 (by omega), rfl, trivial, zW, Nx.mk ?_⟩; conv => whnf))  | (refine splitD (fun hs => Nx.mk ?_) (fun hs => Nx.mk ?_) <;> ((try simp only [Ct.len] at hs); revert hs; intro _; conv => whnf)) | (refine splitB (fun _ => Nx.mk ?_) (fun _ => Nx.mk ?_) <;> conv => whnf) | ((first | refine zA ?_ | refine zB ?_ | refine zC ?_ | refine zD ?_ | refine zE ?_ | refine zF ?_ | refine zG ?_ | fail); conv => whnf)|(refine nilQ (fun _ => Nx.mk ?_) (Nx.mk ?_) <;> conv => whnf) | ((first | refine condN Tryz.underlying4 (Nx.mk ?_) | refine zH ?_ | refine Nx.mk ?_); conv => whnf))
  refine ⟨[(16, nm 6)], rfl, ?_, ?_, ?_, fun _ => ?_⟩
  · ((try conv => whnf); refine ⟨rfl, by rfl, ?_, ?_⟩ <;> ((repeat' ((try conv => whnf); (first | exact zV | refine And.intro ?_ ?_ | refine cellJ (fun _ _ => ?_) | (refine cellB ?_; (conv => whnf); refine And.intro ?_ ?_) | fail))) <;> (try conv => whnf)))
  all_goals ((repeat' ((try conv => whnf); (first | exact zV | refine And.intro ?_ ?_ | refine cellJ (fun _ _ => ?_) | (refine cellB ?_; (conv => whnf); refine And.intro ?_ ?_) | fail))) <;> (try conv => whnf))
theorem szHashKey_fn (x : HashKey_T) (n : Int) (h : W_HashKey x) (h0 : 0 ≤ n) (h1 : n ≤ 1048576) : Fn Tryz.prog 5 true (.cons (.agg (HashKey_R x)) (.cons (.I n) .nil)) [] (.I (if n < (sz_HashKey x : Nat) then -1 else n - (sz_HashKey x : Nat))) [] := by
  have hz : sz_HashKey x = (x.1).length := rfl
  have w0 : (x.1).length ≤ 9223372036854775807 := h
  (refine Fn_of tysOk Tryz.func5 rfl rfl (by simp [AV.len, Tryz.f5]) ⟨?_⟩; conv => whnf)
  have c0 := szIntS_fn x.1 (n) w0 (by omega) (by omega)
  by_cases b0 : (n : Int) < ((x.1).length : Nat)
  · rw [if_pos b0] at c0
    (repeat' first | ((with_reducible show ∃ _ : Bool, _); first | (refine ⟨_, [], _, [], _, _, c0, rfl, trivial, zW, Nx.mk ?_⟩; conv => whnf))  | (refine splitD (fun hs => Nx.mk ?_) (fun hs => Nx.mk ?_) <;> ((try simp only [Ct.len] at hs); revert hs; intro _; conv => whnf)) | (refine splitB (fun _ => Nx.mk ?_) (fun _ => Nx.mk ?_) <;> conv => whnf) | ((first | refine zA ?_ | refine zB ?_ | refine zC ?_ | refine zD ?_ | refine zE ?_ | refine zF ?_ | refine zG ?_ | fail); conv => whnf)|(refine nilQ (fun _ => Nx.mk ?_) (Nx.mk ?_) <;> conv => whnf) | ((first | refine condN Tryz.underlying4 (Nx.mk ?_) | refine zH ?_ | refine Nx.mk ?_); conv => whnf))
    (all_goals try first | contradiction | (exfalso; omega))
    all_goals ((refine ⟨[], rfl, ⟨rfl, rfl, trivial, trivial⟩, ?_, ⟨?_, trivial⟩, fun _ => ⟨?_, trivial⟩⟩ <;> ((repeat' ((try conv => whnf); (first | exact zV | refine And.intro ?_ ?_ | refine cellJ (fun _ _ => ?_) | (refine cellB ?_; (conv => whnf); refine And.intro ?_ ?_) | fail))) <;> (try conv => whnf))); try (rw [if_pos (by omega)]))
  rw [if_neg b0] at c0
  (repeat' first | ((with_reducible show ∃ _ : Bool, _); first | (refine ⟨_, [], _, [], _, _, c0, rfl, trivial, zW, Nx.mk ?_⟩; conv => whnf))  | (refine splitD (fun hs => Nx.mk ?_) (fun hs => Nx.mk ?_) <;> ((try simp only [Ct.len] at hs); revert hs; intro _; conv => whnf)) | (refine splitB (fun _ => Nx.mk ?_) (fun _ => Nx.mk ?_) <;> conv => whnf) | ((first | refine zA ?_ | refine zB ?_ | refine zC ?_ | refine zD ?_ | refine zE ?_ | refine zF ?_ | refine zG ?_ | fail); conv => whnf)|(refine nilQ (fun _ => Nx.mk ?_) (Nx.mk ?_) <;> conv => whnf) | ((first | refine condN Tryz.underlying4 (Nx.mk ?_) | refine zH ?_ | refine Nx.mk ?_); conv => whnf))
  (all_goals try first | contradiction | (exfalso; omega))
  all_goals ((refine ⟨[], rfl, ⟨rfl, rfl, trivial, trivial⟩, ?_, ⟨?_, trivial⟩, fun _ => ⟨?_, trivial⟩⟩ <;> ((repeat' ((try conv => whnf); (first | exact zV | refine And.intro ?_ ?_ | refine cellJ (fun _ _ => ?_) | (refine cellB ?_; (conv => whnf); refine And.intro ?_ ?_) | fail))) <;> (try conv => whnf))); try (rw [if_neg (by omega)]; omega))
theorem eqHashKey_fn (x y : HashKey_T) (h : sz_HashKey x ≤ 1048576) : Fn Tryz.prog 14 true (.cons (.agg (HashKey_R x)) (.cons (.agg (HashKey_R y)) .nil)) [] (.b (decide (x = y))) [] := by
  unfold sz_HashKey at h
  (refine Fn_of tysOk Tryz.func14 rfl rfl (by simp [AV.len, Tryz.f14]) ⟨?_⟩; conv => whnf)
  (repeat' first | ((with_reducible show ∃ _ : Bool, _); first | (refine ⟨_, [], _, [], _, _, eqIntS_fn x.1 y.1 (by omega), rfl, trivial, zW, Nx.mk ?_⟩; conv => whnf))  | (refine splitD (fun hs => Nx.mk ?_) (fun hs => Nx.mk ?_) <;> ((try simp only [Ct.len] at hs); revert hs; intro _; conv => whnf)) | (refine splitB (fun _ => Nx.mk ?_) (fun _ => Nx.mk ?_) <;> conv => whnf) | ((first | refine zA ?_ | refine zB ?_ | refine zC ?_ | refine zD ?_ | refine zE ?_ | refine zF ?_ | refine zG ?_ | fail); conv => whnf)|(refine nilQ (fun _ => Nx.mk ?_) (Nx.mk ?_) <;> conv => whnf) | ((first | refine condN Tryz.underlying4 (Nx.mk ?_) | refine zH ?_ | refine Nx.mk ?_); conv => whnf))
  all_goals ((refine ⟨[], rfl, ⟨rfl, rfl, trivial, trivial⟩, ?_, ⟨?_, trivial⟩, fun _ => ⟨?_, trivial⟩⟩ <;> ((repeat' ((try conv => whnf); (first | exact zV | refine And.intro ?_ ?_ | refine cellJ (fun _ _ => ?_) | (refine cellB ?_; (conv => whnf); refine And.intro ?_ ?_) | fail))) <;> (try conv => whnf))); simp_all [Prod.ext_iff])
abbrev Manifest_T := (Int) × (Int) × (Int) × (Int) × (List Int) × (Int) × Unit
instance : DecidableEq Manifest_T := (@instDecidableEqProd _ _ inferInstance (@instDecidableEqProd _ _ inferInstance (@instDecidableEqProd _ _ inferInstance (@instDecidableEqProd _ _ inferInstance (@instDecidableEqProd _ _ inferInstance (@instDecidableEqProd _ _ inferInstance inferInstance))))))
abbrev Manifest_R (x : Manifest_T) : AV := (.cons (.I (x.1)) (.cons (.I (x.2.1)) (.cons (.I (x.2.2.1)) (.cons (.I (x.2.2.2.1)) (.cons (.ri false .i64 (x.2.2.2.2.1)) (.cons (.I (x.2.2.2.2.2.1)) .nil))))))
abbrev Manifest_O (x : Manifest_T) : AV := (.cons (.I (x.1)) (.cons (.I (x.2.1)) (.cons (.I (x.2.2.1)) (.cons (.I (x.2.2.2.1)) (.cons (.oi 3 .i64 (x.2.2.2.2.1)) (.cons (.I (x.2.2.2.2.2.1)) .nil))))))
def sz_Manifest (x : Manifest_T) : Nat := (x.2.2.2.2.1).length
def W_Manifest (x : Manifest_T) : Prop := (x.2.2.2.2.1).length ≤ 9223372036854775807
theorem toManifest_fn (x : Manifest_T) (h : sz_Manifest x ≤ 1048576) : Fn Tryz.prog 10 true (.cons (.agg (Manifest_R x)) .nil) [] (.agg (.cons (.I (x.1)) (.cons (.I (x.2.1)) (.cons (.I (x.2.2.1)) (.cons (.I (x.2.2.2.1)) (.cons (.os (rt 16)) (.cons (.I (x.2.2.2.2.2.1)) .nil))))))) [(16, .row 3 (.ints .i64 (x.2.2.2.2.1)))] := by
  unfold sz_Manifest at h
  (refine Fn_of tysOk Tryz.func10 rfl rfl (by simp [AV.len, Tryz.f10]) ⟨?_⟩; conv => whnf)
  (repeat' first | ((with_reducible show ∃ _ : Bool, _); first | (refine ⟨_, [], _, [], _, _, toIntS_fn x.2.2.2.2.1 (by omega), rfl, trivial, zW, Nx.mk ?_⟩; conv => whnf))  | (refine splitD (fun hs => Nx.mk ?_) (fun hs => Nx.mk ?_) <;> ((try simp only [Ct.len] at hs); revert hs; intro _; conv => whnf)) | (refine splitB (fun _ => Nx.mk ?_) (fun _ => Nx.mk ?_) <;> conv => whnf) | ((first | refine zA ?_ | refine zB ?_ | refine zC ?_ | refine zD ?_ | refine zE ?_ | refine zF ?_ | refine zG ?_ | fail); conv => whnf)|(refine nilQ (fun _ => Nx.mk ?_) (Nx.mk ?_) <;> conv => whnf) | ((first | refine condN Tryz.underlying4 (Nx.mk ?_) | refine zH ?_ | refine Nx.mk ?_); conv => whnf))
  refine ⟨[(16, nm 18)], rfl, ?_, ?_, ?_, fun _ => ?_⟩
  · ((try conv => whnf); refine ⟨rfl, by rfl, ?_, ?_⟩ <;> ((repeat' ((try conv => whnf); (first | exact zV | refine And.intro ?_ ?_ | refine cellJ (fun _ _ => ?_) | (refine cellB ?_; (conv => whnf); refine And.intro ?_ ?_) | fail))) <;> (try conv => whnf)))
  all_goals ((repeat' ((try conv => whnf); (first | exact zV | refine And.intro ?_ ?_ | refine cellJ (fun _ _ => ?_) | (refine cellB ?_; (conv => whnf); refine And.intro ?_ ?_) | fail))) <;> (try conv => whnf))
theorem szManifest_fn (x : Manifest_T) (n : Int) (h : W_Manifest x) (h0 : 0 ≤ n) (h1 : n ≤ 1048576) : Fn Tryz.prog 6 true (.cons (.agg (Manifest_R x)) (.cons (.I n) .nil)) [] (.I (if n < (sz_Manifest x : Nat) then -1 else n - (sz_Manifest x : Nat))) [] := by
  have hz : sz_Manifest x = (x.2.2.2.2.1).length := rfl
  have w4 : (x.2.2.2.2.1).length ≤ 9223372036854775807 := h
  (refine Fn_of tysOk Tryz.func6 rfl rfl (by simp [AV.len, Tryz.f6]) ⟨?_⟩; conv => whnf)
  have c4 := szIntS_fn x.2.2.2.2.1 (n) w4 (by omega) (by omega)
  by_cases b4 : (n : Int) < ((x.2.2.2.2.1).length : Nat)
  · rw [if_pos b4] at c4
    (repeat' first | ((with_reducible show ∃ _ : Bool, _); first | (refine ⟨_, [], _, [], _, _, c4, rfl, trivial, zW, Nx.mk ?_⟩; conv => whnf))  | (refine splitD (fun hs => Nx.mk ?_) (fun hs => Nx.mk ?_) <;> ((try simp only [Ct.len] at hs); revert hs; intro _; conv => whnf)) | (refine splitB (fun _ => Nx.mk ?_) (fun _ => Nx.mk ?_) <;> conv => whnf) | ((first | refine zA ?_ | refine zB ?_ | refine zC ?_ | refine zD ?_ | refine zE ?_ | refine zF ?_ | refine zG ?_ | fail); conv => whnf)|(refine nilQ (fun _ => Nx.mk ?_) (Nx.mk ?_) <;> conv => whnf) | ((first | refine condN Tryz.underlying4 (Nx.mk ?_) | refine zH ?_ | refine Nx.mk ?_); conv => whnf))
    (all_goals try first | contradiction | (exfalso; omega))
    all_goals ((refine ⟨[], rfl, ⟨rfl, rfl, trivial, trivial⟩, ?_, ⟨?_, trivial⟩, fun _ => ⟨?_, trivial⟩⟩ <;> ((repeat' ((try conv => whnf); (first | exact zV | refine And.intro ?_ ?_ | refine cellJ (fun _ _ => ?_) | (refine cellB ?_; (conv => whnf); refine And.intro ?_ ?_) | fail))) <;> (try conv => whnf))); try (rw [if_pos (by omega)]))
  rw [if_neg b4] at c4
  (repeat' first | ((with_reducible show ∃ _ : Bool, _); first | (refine ⟨_, [], _, [], _, _, c4, rfl, trivial, zW, Nx.mk ?_⟩; conv => whnf))  | (refine splitD (fun hs => Nx.mk ?_) (fun hs => Nx.mk ?_) <;> ((try simp only [Ct.len] at hs); revert hs; intro _; conv => whnf)) | (refine splitB (fun _ => Nx.mk ?_) (fun _ => Nx.mk ?_) <;> conv => whnf) | ((first | refine zA ?_ | refine zB ?_ | refine zC ?_ | refine zD ?_ | refine zE ?_ | refine zF ?_ | refine zG ?_ | fail); conv => whnf)|(refine nilQ (fun _ => Nx.mk ?_) (Nx.mk ?_) <;> conv => whnf) | ((first | refine condN Tryz.underlying4 (Nx.mk ?_) | refine zH ?_ | refine Nx.mk ?_); conv => whnf))
  (all_goals try first | contradiction | (exfalso; omega))
  all_goals ((refine ⟨[], rfl, ⟨rfl, rfl, trivial, trivial⟩, ?_, ⟨?_, trivial⟩, fun _ => ⟨?_, trivial⟩⟩ <;> ((repeat' ((try conv => whnf); (first | exact zV | refine And.intro ?_ ?_ | refine cellJ (fun _ _ => ?_) | (refine cellB ?_; (conv => whnf); refine And.intro ?_ ?_) | fail))) <;> (try conv => whnf))); try (rw [if_neg (by omega)]; omega))
theorem eqManifest_fn (x y : Manifest_T) (h : sz_Manifest x ≤ 1048576) : Fn Tryz.prog 15 true (.cons (.agg (Manifest_R x)) (.cons (.agg (Manifest_R y)) .nil)) [] (.b (decide (x = y))) [] := by
  unfold sz_Manifest at h
  (refine Fn_of tysOk Tryz.func15 rfl rfl (by simp [AV.len, Tryz.f15]) ⟨?_⟩; conv => whnf)
  (repeat' first | ((with_reducible show ∃ _ : Bool, _); first | (refine ⟨_, [], _, [], _, _, eqIntS_fn x.2.2.2.2.1 y.2.2.2.2.1 (by omega), rfl, trivial, zW, Nx.mk ?_⟩; conv => whnf))  | (refine splitD (fun hs => Nx.mk ?_) (fun hs => Nx.mk ?_) <;> ((try simp only [Ct.len] at hs); revert hs; intro _; conv => whnf)) | (refine splitB (fun _ => Nx.mk ?_) (fun _ => Nx.mk ?_) <;> conv => whnf) | ((first | refine zA ?_ | refine zB ?_ | refine zC ?_ | refine zD ?_ | refine zE ?_ | refine zF ?_ | refine zG ?_ | fail); conv => whnf)|(refine nilQ (fun _ => Nx.mk ?_) (Nx.mk ?_) <;> conv => whnf) | ((first | refine condN Tryz.underlying4 (Nx.mk ?_) | refine zH ?_ | refine Nx.mk ?_); conv => whnf))
  all_goals ((refine ⟨[], rfl, ⟨rfl, rfl, trivial, trivial⟩, ?_, ⟨?_, trivial⟩, fun _ => ⟨?_, trivial⟩⟩ <;> ((repeat' ((try conv => whnf); (first | exact zV | refine And.intro ?_ ?_ | refine cellJ (fun _ _ => ?_) | (refine cellB ?_; (conv => whnf); refine And.intro ?_ ?_) | fail))) <;> (try conv => whnf))); simp_all [Prod.ext_iff])
abbrev Group_T := (Int) × (Int) × (List Int) × Unit
instance : DecidableEq Group_T := (@instDecidableEqProd _ _ inferInstance (@instDecidableEqProd _ _ inferInstance (@instDecidableEqProd _ _ inferInstance inferInstance)))
abbrev Group_R (x : Group_T) : AV := (.cons (.I (x.1)) (.cons (.I (x.2.1)) (.cons (.ri false .i64 (x.2.2.1)) .nil)))
abbrev Group_O (x : Group_T) : AV := (.cons (.I (x.1)) (.cons (.I (x.2.1)) (.cons (.oi 3 .i64 (x.2.2.1)) .nil)))
def sz_Group (x : Group_T) : Nat := (x.2.2.1).length
def W_Group (x : Group_T) : Prop := (x.2.2.1).length ≤ 9223372036854775807
abbrev WrappedKey_T := (Int) × (Int) × (Int) × (Int) × Unit
instance : DecidableEq WrappedKey_T := (@instDecidableEqProd _ _ inferInstance (@instDecidableEqProd _ _ inferInstance (@instDecidableEqProd _ _ inferInstance (@instDecidableEqProd _ _ inferInstance inferInstance))))
abbrev WrappedKey_R (x : WrappedKey_T) : AV := (.cons (.I (x.1)) (.cons (.I (x.2.1)) (.cons (.I (x.2.2.1)) (.cons (.I (x.2.2.2.1)) .nil))))
abbrev WrappedKey_O (x : WrappedKey_T) : AV := WrappedKey_R x
def sz_WrappedKey (x : WrappedKey_T) : Nat := 0
def W_WrappedKey (x : WrappedKey_T) : Prop := True
abbrev WrappedKeyS_T := List ((Int) × (Int) × (Int) × (Int) × Unit)
def sz_WrappedKeyS (xs : WrappedKeyS_T) : Nat := tot (fun x : (Int) × (Int) × (Int) × (Int) × Unit => sz_WrappedKey (x)) xs
def W_WrappedKeyS (xs : WrappedKeyS_T) : Prop := xs.length ≤ 9223372036854775807 ∧ ∀ i, i < xs.length → W_WrappedKey (xs.getD i default)
def mkWrappedKey (k : Int) (i : Nat) : WrappedKey_T := (k + (4 * i : Nat), k + (4 * i : Nat) + 1, k + (4 * i : Nat) + 1 + 1, k + (4 * i : Nat) + 1 + 1 + 1, ())
def mksWrappedKey (k : Int) (xs : List WrappedKey_T) (i j : Nat) : WrappedKey_T := if j < i then mkWrappedKey k j else xs.getD j default
def mkLWrappedKey (k : Int) (n : Nat) : List WrappedKey_T := (List.range n).map (mkWrappedKey k)
theorem markHashKey_fn (x : HashKey_T) (k : Int) (h0 : 0 ≤ k) (h1 : k ≤ 1099511627776) (h : sz_HashKey x ≤ 1048576) : Fn Tryz.prog 17 true (.cons (.agg (.cons (.os (rt 0)) .nil)) (.cons (.I k) .nil)) [(0, .row 3 (.ints .i64 (x.1)))] (.I (k + (sz_HashKey x : Nat))) [(0, .row 3 (.ints .i64 (marks (k) (x.1).length)))] := by
  have hz : sz_HashKey x = (x.1).length := rfl
  (refine Fn_of tysOk Tryz.func17 rfl rfl (by simp [AV.len, Tryz.f17]) ⟨?_⟩; conv => whnf)
  (repeat' first | ((with_reducible show ∃ _ : Bool, _); first | (refine ⟨_, [rt 0], _, _, _, _, markIntS_fn x.1 (k) (by omega) (by omega) (by omega), rfl, zW, zW, Nx.mk ?_⟩; conv => whnf))  | (refine splitD (fun hs => Nx.mk ?_) (fun hs => Nx.mk ?_) <;> ((try simp only [Ct.len] at hs); revert hs; intro _; conv => whnf)) | (refine splitB (fun _ => Nx.mk ?_) (fun _ => Nx.mk ?_) <;> conv => whnf) | ((first | refine zA ?_ | refine zB ?_ | refine zC ?_ | refine zD ?_ | refine zE ?_ | refine zF ?_ | refine zG ?_ | fail); conv => whnf)|(refine nilQ (fun _ => Nx.mk ?_) (Nx.mk ?_) <;> conv => whnf) | ((first | refine condN Tryz.underlying4 (Nx.mk ?_) | refine zH ?_ | refine Nx.mk ?_); conv => whnf))
  refine ⟨[], rfl, ?_, ?_, ?_, fun _ => ?_⟩
  · ((try conv => whnf); refine ⟨rfl, by rfl, ?_, ?_⟩ <;> ((repeat' ((try conv => whnf); (first | exact zV | refine And.intro ?_ ?_ | refine cellJ (fun _ _ => ?_) | (refine cellB ?_; (conv => whnf); refine And.intro ?_ ?_) | fail))) <;> (try conv => whnf)))
  · ((repeat' ((try conv => whnf); (first | exact zV | refine And.intro ?_ ?_ | refine cellJ (fun _ _ => ?_) | (refine cellB ?_; (conv => whnf); refine And.intro ?_ ?_) | fail))) <;> (try conv => whnf))
    try omega
  all_goals ((repeat' ((try conv => whnf); (first | exact zV | refine And.intro ?_ ?_ | refine cellJ (fun _ _ => ?_) | (refine cellB ?_; (conv => whnf); refine And.intro ?_ ?_) | fail))) <;> (try conv => whnf))
theorem markManifest_fn (x : Manifest_T) (k : Int) (h0 : 0 ≤ k) (h1 : k ≤ 1099511627776) (h : sz_Manifest x ≤ 1048576) : Fn Tryz.prog 18 true (.cons (.agg (.cons (.I (x.1)) (.cons (.I (x.2.1)) (.cons (.I (x.2.2.1)) (.cons (.I (x.2.2.2.1)) (.cons (.os (rt 0)) (.cons (.I (x.2.2.2.2.2.1)) .nil))))))) (.cons (.I k) .nil)) [(0, .row 3 (.ints .i64 (x.2.2.2.2.1)))] (.I (k + (sz_Manifest x : Nat))) [(0, .row 3 (.ints .i64 (marks (k) (x.2.2.2.2.1).length)))] := by
  have hz : sz_Manifest x = (x.2.2.2.2.1).length := rfl
  (refine Fn_of tysOk Tryz.func18 rfl rfl (by simp [AV.len, Tryz.f18]) ⟨?_⟩; conv => whnf)
  (repeat' first | ((with_reducible show ∃ _ : Bool, _); first | (refine ⟨_, [rt 0], _, _, _, _, markIntS_fn x.2.2.2.2.1 (k) (by omega) (by omega) (by omega), rfl, zW, zW, Nx.mk ?_⟩; conv => whnf))  | (refine splitD (fun hs => Nx.mk ?_) (fun hs => Nx.mk ?_) <;> ((try simp only [Ct.len] at hs); revert hs; intro _; conv => whnf)) | (refine splitB (fun _ => Nx.mk ?_) (fun _ => Nx.mk ?_) <;> conv => whnf) | ((first | refine zA ?_ | refine zB ?_ | refine zC ?_ | refine zD ?_ | refine zE ?_ | refine zF ?_ | refine zG ?_ | fail); conv => whnf)|(refine nilQ (fun _ => Nx.mk ?_) (Nx.mk ?_) <;> conv => whnf) | ((first | refine condN Tryz.underlying4 (Nx.mk ?_) | refine zH ?_ | refine Nx.mk ?_); conv => whnf))
  refine ⟨[], rfl, ?_, ?_, ?_, fun _ => ?_⟩
  · ((try conv => whnf); refine ⟨rfl, by rfl, ?_, ?_⟩ <;> ((repeat' ((try conv => whnf); (first | exact zV | refine And.intro ?_ ?_ | refine cellJ (fun _ _ => ?_) | (refine cellB ?_; (conv => whnf); refine And.intro ?_ ?_) | fail))) <;> (try conv => whnf)))
  · ((repeat' ((try conv => whnf); (first | exact zV | refine And.intro ?_ ?_ | refine cellJ (fun _ _ => ?_) | (refine cellB ?_; (conv => whnf); refine And.intro ?_ ?_) | fail))) <;> (try conv => whnf))
    try omega
  all_goals ((repeat' ((try conv => whnf); (first | exact zV | refine And.intro ?_ ?_ | refine cellJ (fun _ _ => ?_) | (refine cellB ?_; (conv => whnf); refine And.intro ?_ ?_) | fail))) <;> (try conv => whnf))
open Go.ChangeShapes Go.WideShapes Go.ChangeAt Go.RowKit Go.Deep
def ok_CodedPacket (x : CodedPacket_T) : Prop := W64 (x.1) ∧ ((x.2.1).length ≤ maxLen ∧ ∀ y ∈ (x.2.1), (Lit.int .i64 y).wf = true) ∧ ((x.2.2.1).length ≤ maxLen ∧ ∀ y ∈ (x.2.2.1), (Lit.int .i64 y).wf = true) ∧ True
theorem opn_CodedPacket : Opn Tryz.prog 68 3 ok_CodedPacket CodedPacket_R :=
  opn_struct Tryz.underlying68 (by kernel_rfl) (opnF_cons (i := 0) (n := 1) (m := 2) (by kernel_rfl) (opn_int Tryz.underlying3) (opnF_cons (i := 1) (n := 1) (m := 1) (by kernel_rfl) (opn_intS) (opnF_cons (i := 2) (n := 1) (m := 0) (by kernel_rfl) (opn_intS) (opnF_nil))))
theorem W_of_CodedPacket {x : CodedPacket_T} (h : ok_CodedPacket x) : W_CodedPacket x := by
  exact ⟨h.2.1.1, h.2.2.1.1⟩
def ok_LinkPacket (x : LinkPacket_T) : Prop := W64 (x.1) ∧ W64 (x.2.1) ∧ W64 (x.2.2.1) ∧ ok_CodedPacket (x.2.2.2.1) ∧ W64 (x.2.2.2.2.1) ∧ True
theorem opn_LinkPacket : Opn Tryz.prog 70 7 ok_LinkPacket LinkPacket_R :=
  opn_struct Tryz.underlying70 (by kernel_rfl) (opnF_cons (i := 0) (n := 1) (m := 6) (by kernel_rfl) (opn_int Tryz.underlying3) (opnF_cons (i := 1) (n := 1) (m := 5) (by kernel_rfl) (opn_int Tryz.underlying3) (opnF_cons (i := 2) (n := 1) (m := 4) (by kernel_rfl) (opn_int Tryz.underlying3) (opnF_cons (i := 3) (n := 3) (m := 1) (by kernel_rfl) (opn_CodedPacket) (opnF_cons (i := 6) (n := 1) (m := 0) (by kernel_rfl) (opn_int Tryz.underlying3) (opnF_nil))))))
theorem W_of_LinkPacket {x : LinkPacket_T} (h : ok_LinkPacket x) : W_LinkPacket x := by
  exact W_of_CodedPacket h.2.2.2.1
def ok_LinkPacketS (xs : LinkPacketS_T) : Prop := xs.length ≤ maxLen ∧ ∀ x ∈ xs, ok_LinkPacket (x)
theorem opn_LinkPacketS : Opn Tryz.prog 27 1 ok_LinkPacketS (fun xs : LinkPacketS_T => .cons (.rs false xs.length 7 (cellsA LinkPacket_R xs)) .nil) := opn_slice Tryz.underlying27 (by kernel_rfl) (by omega) opn_LinkPacket
theorem W_of_LinkPacketS {xs : LinkPacketS_T} (h : ok_LinkPacketS xs) : W_LinkPacketS xs := by
  exact ⟨h.1, all_at (φ := fun y : (Int) × (Int) × (Int) × ((Int) × (List Int) × (List Int) × Unit) × (Int) × Unit => W_LinkPacket (y)) (fun y hy => W_of_LinkPacket (h.2 y hy))⟩
def ok_HashKey (x : HashKey_T) : Prop := ((x.1).length ≤ maxLen ∧ ∀ y ∈ (x.1), (Lit.int .i64 y).wf = true) ∧ True
theorem opn_HashKey : Opn Tryz.prog 24 1 ok_HashKey HashKey_R :=
  opn_struct Tryz.underlying24 (by kernel_rfl) (opnF_cons (i := 0) (n := 1) (m := 0) (by kernel_rfl) (opn_intS) (opnF_nil))
theorem W_of_HashKey {x : HashKey_T} (h : ok_HashKey x) : W_HashKey x := by
  exact h.1.1
def ok_Manifest (x : Manifest_T) : Prop := W64 (x.1) ∧ W64 (x.2.1) ∧ W64 (x.2.2.1) ∧ W64 (x.2.2.2.1) ∧ ((x.2.2.2.2.1).length ≤ maxLen ∧ ∀ y ∈ (x.2.2.2.2.1), (Lit.int .i64 y).wf = true) ∧ W64 (x.2.2.2.2.2.1) ∧ True
theorem opn_Manifest : Opn Tryz.prog 26 6 ok_Manifest Manifest_R :=
  opn_struct Tryz.underlying26 (by kernel_rfl) (opnF_cons (i := 0) (n := 1) (m := 5) (by kernel_rfl) (opn_int Tryz.underlying3) (opnF_cons (i := 1) (n := 1) (m := 4) (by kernel_rfl) (opn_int Tryz.underlying3) (opnF_cons (i := 2) (n := 1) (m := 3) (by kernel_rfl) (opn_int Tryz.underlying3) (opnF_cons (i := 3) (n := 1) (m := 2) (by kernel_rfl) (opn_int Tryz.underlying3) (opnF_cons (i := 4) (n := 1) (m := 1) (by kernel_rfl) (opn_intS) (opnF_cons (i := 5) (n := 1) (m := 0) (by kernel_rfl) (opn_int Tryz.underlying3) (opnF_nil)))))))
theorem W_of_Manifest {x : Manifest_T} (h : ok_Manifest x) : W_Manifest x := by
  exact h.2.2.2.2.1.1
end Go.Proofs.YtbepgedckfhifaaGreat
