/-
  Suspects, of both: what they answer.
-/
import Derived.Test.YtbepgedckfhifaaGreatSuJs
import Derived.Test.YtbepgedckfhifaaGreatSuDg
import Derived.Test.YtbepgedckfhifaaGreatSuDj
namespace Go.Proofs.YtbepgedckfhifaaGreat
set_option linter.unusedVariables false
set_option linter.unusedSimpArgs false
set_option maxRecDepth 100000
set_option maxHeartbeats 4000000
attribute [local irreducible] Fn
theorem Fn.ff {P : Program} {f : Nat} {nw : Bool} {a : AV} {σ σ' : List (Nat × Blk)} {x : Bool} (h : Fn P f nw a σ (.b x) σ') (hx : x = false) : Fn P f nw a σ .ff σ' := by
  subst hx
  unfold Fn at h ⊢
  exact ⟨h.1, fun E vs h1 h2 h3 => (h.2 E vs h1 h2 h3).mono fun e w' ⟨v, γ, k1, k2, k3, k4, k5, k6⟩ => ⟨v, γ, k1, k2, k3, k4, k5, k6⟩⟩
attribute [local irreducible] prfB sortI hasI susK tru
theorem hasI_sort {ys : List Int} {x : Int} : hasI (sortI ys) x = hasI ys x := by
  rw [Bool.eq_iff_iff, hasI_mem', hasI_mem', sortI_mem]
theorem w64_of {xs : LinkPacketS_T} (h : ok_LinkPacketS xs) : ∀ i, i < xs.length → W64 (xs.getD i default).1 := fun i hi => by
  rw [List.getD_eq_getElem?_getD, List.getElem?_eq_getElem hi]
  exact (h.2 _ (List.getElem_mem hi)).1
noncomputable def susL (mk : Int) (k : HashKey_T) (m : Manifest_T) (xs : LinkPacketS_T) : List Int := sortI (susK mk k m xs xs.length)
theorem susL_len {mk : Int} {k : HashKey_T} {m : Manifest_T} {xs : LinkPacketS_T} : (susL mk k m xs).length ≤ xs.length := by
  unfold susL
  rw [sortI_perm.length_eq]
  exact susK_nd.2.1
theorem susK_zeroT {mk : Int} {k : HashKey_T} {m : Manifest_T} {xs : LinkPacketS_T} : sortI (susK mk k m xs 0) = [] := by
  rw [susK_zero]; with_unfolding_all rfl
theorem tru_nil : tru [] = [] := by with_unfolding_all rfl
theorem sSus_fn (mk : Int) (k : HashKey_T) (m : Manifest_T) (xs : LinkPacketS_T) (h : sz_HashKey k ≤ 1048576) (h1 : sz_Manifest m ≤ 1048576) (h2 : sz_LinkPacketS xs ≤ 1048576) : Fn Tryz.prog 8 true (.cons (.I mk) (.cons (.agg (HashKey_R k)) (.cons (.agg (Manifest_R m)) (.cons (.rs false xs.length 7 (cellsA LinkPacket_R xs)) .nil)))) [] (.os (rt 16)) [(16, .row 3 (.ints .i64 (susL mk k m xs)))] := by
  have hk : k.1.length ≤ 1048576 := h
  have hm : m.2.2.2.2.1.length ≤ 1048576 := h1
  unfold sz_LinkPacketS at h2
  have htt : tot (fun x : (Int) × (Int) × (Int) × ((Int) × (List Int) × (List Int) × Unit) × (Int) × Unit => sz_LinkPacket (x)) xs = xs.length + psum (fun x : (Int) × (Int) × (Int) × ((Int) × (List Int) × (List Int) × Unit) × (Int) × Unit => sz_LinkPacket (x)) xs xs.length := rfl
  (refine Fn_of tysOk Tryz.func8 rfl rfl (by simp [AV.len, Tryz.f8]) ⟨?_⟩; conv => whnf)
  (repeat' first | (refine splitD (fun hs => Nx.mk ?_) (fun hs => Nx.mk ?_) <;> ((try simp only [Ct.len] at hs); revert hs; intro _; conv => whnf)) | (refine splitB (fun _ => Nx.mk ?_) (fun _ => Nx.mk ?_) <;> conv => whnf) | ((first | refine zA ?_ | refine zB ?_ | refine zC ?_ | refine zD ?_ | refine zE ?_ | refine zF ?_ | refine zG ?_ | fail); conv => whnf)|(refine nilQ (fun _ => Nx.mk ?_) (Nx.mk ?_) <;> conv => whnf) | ((first | refine condN Tryz.underlying4 (Nx.mk ?_) | refine zH ?_ | refine Nx.mk ?_); conv => whnf))
  refine loopW tysOk [nm 55, nm 65] (fun i : Nat => [(9, .os (rt (nm 12))), (10, .I i), (12, .top)]) (fun i => [(nm 12, some (.row 3 (.ints .i64 (sortI (susK mk k m xs i)))))]) (fun i => i ≤ xs.length) (fun i => xs.length - i) 0 (Nat.zero_le _) ?_ ?_
  · ((try conv => whnf); refine ⟨rfl, by rfl, ?_, ?_⟩ <;> ((repeat' ((try conv => whnf); (first | exact zV | refine And.intro ?_ ?_ | refine cellJ (fun _ _ => ?_) | (refine cellB ?_; (conv => whnf); refine And.intro ?_ ?_) | fail))) <;> (try conv => whnf)))
    all_goals first | exact susK_zeroT.symm | trace_state
  intro i hi
  dsimp only
  obtain ⟨hnd, hln, _⟩ := susK_nd (mk := mk) (k := k) (m := m) (xs := xs) (i := i)
  have hsl : (sortI (susK mk k m xs i)).length = (susK mk k m xs i).length := sortI_perm.length_eq
  by_cases hlt : i < xs.length
  · have ht := tot_at (sz := fun x : (Int) × (Int) × (Int) × ((Int) × (List Int) × (List Int) × Unit) × (Int) × Unit => sz_LinkPacket (x)) hlt
    have cp := sPrf_fn mk k m (xs.getD i default) h h1 (by omega)
    have ch := sHas_fn (sortI (susK mk k m xs i)) (xs.getD i default).1 (by omega)
    rw [hasI_sort] at ch
    by_cases hp : prfB mk k m (xs.getD i default) = true
    · have cp := cp.tt hp
      cases hh : hasI (susK mk k m xs i) (xs.getD i default).1 with
      | true =>
        have hz := susK_has (mk := mk) (k := k) (m := m) hh
        have ch := ch.tt hh
        (repeat' first | ((with_reducible show ∃ _ : Bool, _); first | (refine ⟨_, [], _, [], _, _, cp, rfl, trivial, zW, Nx.mk ?_⟩; conv => whnf)|(refine ⟨_, [], _, [], _, _, ch, rfl, trivial, zW, Nx.mk ?_⟩; conv => whnf)) | ((refine VC_draw (sf := []) tysOk (by kernel_rfl) (by kernel_rfl) (Nx.mk ?_); conv => whnf)) | (refine splitD (fun hs => Nx.mk ?_) (fun hs => Nx.mk ?_) <;> ((try simp only [Ct.len] at hs); revert hs; intro _; conv => whnf)) | (refine splitB (fun _ => Nx.mk ?_) (fun _ => Nx.mk ?_) <;> conv => whnf) | ((first | refine zA ?_ | refine zB ?_ | refine zC ?_ | refine zD ?_ | refine zE ?_ | refine zF ?_ | refine zG ?_ | fail); conv => whnf)|(refine nilQ (fun _ => Nx.mk ?_) (Nx.mk ?_) <;> conv => whnf) | ((first | refine condN Tryz.underlying4 (Nx.mk ?_) | refine zH ?_ | refine Nx.mk ?_); conv => whnf))
        (all_goals try first | contradiction | (exfalso; omega))
        refine ⟨i + 1, by omega, by omega, [], rfl, ?_⟩
        rw [hz]
        ((try conv => whnf); refine ⟨rfl, by rfl, ?_, ?_⟩ <;> ((repeat' ((try conv => whnf); (first | exact zV | refine And.intro ?_ ?_ | refine cellJ (fun _ _ => ?_) | (refine cellB ?_; (conv => whnf); refine And.intro ?_ ?_) | fail))) <;> (try conv => whnf)))
        all_goals trace_state
      | false =>
        have hz := susK_add hp hh
        rw [hh] at ch
        have hx : (xs.getD i default).1 ∉ susK mk k m xs i := fun hx => by rw [hasI_mem'.2 hx] at hh; cases hh
        (repeat' first | ((with_reducible show ∃ _ : Bool, _); first | (refine ⟨_, [], _, [], _, _, cp, rfl, trivial, zW, Nx.mk ?_⟩; conv => whnf)|(refine ⟨_, [], _, [], _, _, ch, rfl, trivial, zW, Nx.mk ?_⟩; conv => whnf)) | ((refine VC_draw (sf := []) tysOk (by kernel_rfl) (by kernel_rfl) (Nx.mk ?_); conv => whnf)) | (refine splitD (fun hs => Nx.mk ?_) (fun hs => Nx.mk ?_) <;> ((try simp only [Ct.len] at hs); revert hs; intro _; conv => whnf)) | (refine splitB (fun _ => Nx.mk ?_) (fun _ => Nx.mk ?_) <;> conv => whnf) | ((first | refine zA ?_ | refine zB ?_ | refine zC ?_ | refine zD ?_ | refine zE ?_ | refine zF ?_ | refine zG ?_ | fail); conv => whnf)|(refine nilQ (fun _ => Nx.mk ?_) (Nx.mk ?_) <;> conv => whnf) | ((first | refine condN Tryz.underlying4 (Nx.mk ?_) | refine zH ?_ | refine Nx.mk ?_); conv => whnf))
        (all_goals try first | contradiction | (exfalso; omega))
        refine VC.le (le_frz (L := nm 12) (Eq.refl _)) ?_
        generalize hL : sortI (susK mk k m xs i) = L at *
        refine loopI tysOk [] (fun j : Nat => [(11, .I j)]) (fun j => []) (fun j => j ≤ L.length ∧ ∀ q, q < j → L.getD q 0 < (xs.getD i default).1) (fun j => L.length - j) 0 ⟨Nat.zero_le _, fun q hq => absurd hq (by omega)⟩ ?_ ?_
        · ((try conv => whnf); refine ⟨rfl, by rfl, ?_, ?_⟩ <;> ((repeat' ((try conv => whnf); (first | exact zV | refine And.intro ?_ ?_ | refine cellJ (fun _ _ => ?_) | (refine cellB ?_; (conv => whnf); refine And.intro ?_ ?_) | fail))) <;> (try conv => whnf)))
          all_goals trace_state
        rintro j ⟨hj, hall⟩
        by_cases hjl : j < L.length
        · by_cases hc : L.getD j 0 < (xs.getD i default).1
          · (repeat' first | ((with_reducible show VC _ (.region 9 _ true) _ _); exfalso; omega) | ((refine VC_draw (sf := []) tysOk (by kernel_rfl) (by kernel_rfl) (Nx.mk ?_); conv => whnf)) | (refine splitD (fun hs => Nx.mk ?_) (fun hs => Nx.mk ?_) <;> ((try simp only [Ct.len] at hs); revert hs; intro _; conv => whnf)) | (refine splitB (fun _ => Nx.mk ?_) (fun _ => Nx.mk ?_) <;> conv => whnf) | ((first | refine zA ?_ | refine zB ?_ | refine zC ?_ | refine zD ?_ | refine zE ?_ | refine zF ?_ | refine zG ?_ | fail); conv => whnf)|(refine nilQ (fun _ => Nx.mk ?_) (Nx.mk ?_) <;> conv => whnf) | ((first | refine condN Tryz.underlying4 (Nx.mk ?_) | refine zH ?_ | refine Nx.mk ?_); conv => whnf))
            (all_goals try first | contradiction | (exfalso; omega))
            all_goals
              refine ⟨j + 1, ⟨by omega, fun q hq => ?_⟩, by omega, ?_⟩
              · by_cases e : q = j
                · rw [e]; exact hc
                · exact hall q (by omega)
              · ((try conv => whnf); refine ⟨rfl, by rfl, ?_, ?_⟩ <;> ((repeat' ((try conv => whnf); (first | exact zV | refine And.intro ?_ ?_ | refine cellJ (fun _ _ => ?_) | (refine cellB ?_; (conv => whnf); refine And.intro ?_ ?_) | fail))) <;> (try conv => whnf)))
          · have hins := ins_sorted hnd hx (by rw [hL]; exact hj) (by rw [hL]; exact hall) (by rw [hL]; exact fun _ => hc)
            rw [hL, ← hz] at hins
            (repeat' first | ((with_reducible show VC _ (.region 9 _ true) _ _); exfalso; omega) | ((with_reducible show VC _ (.region 9 _ true) _ _); ((with_reducible show VC _ (.region _ _ true) _ _); refine VC_tree (sf := []) tysOk (by kernel_rfl) (.nd 4 7 (.nd 4 8 (.nd 4 9 (.nd 4 10 (.nd 4 14 (.lf [1, 2, 5, 6, 12, 13, 0, 3, 7, 8, 9, 10, 14, 4, 11, 15, 16]) (.nd 11 14 (.lf [1, 2, 5, 6, 12, 13, 0, 3, 7, 8, 9, 10, 4, 14, 11, 15, 16]) (.lf [1, 2, 5, 6, 12, 13, 0, 3, 7, 8, 9, 10, 4, 11, 14, 15, 16]))) (.nd 4 14 (.lf [1, 2, 5, 6, 12, 13, 0, 3, 7, 8, 9, 14, 4, 10, 11, 15, 16]) (.nd 11 14 (.lf [1, 2, 5, 6, 12, 13, 0, 3, 7, 8, 9, 4, 10, 14, 11, 15, 16]) (.lf [1, 2, 5, 6, 12, 13, 0, 3, 7, 8, 9, 4, 10, 11, 14, 15, 16])))) (.nd 4 14 (.lf [1, 2, 5, 6, 12, 13, 0, 3, 7, 8, 14, 4, 9, 10, 11, 15, 16]) (.nd 11 14 (.lf [1, 2, 5, 6, 12, 13, 0, 3, 7, 8, 4, 9, 10, 14, 11, 15, 16]) (.lf [1, 2, 5, 6, 12, 13, 0, 3, 7, 8, 4, 9, 10, 11, 14, 15, 16])))) (.nd 4 14 (.lf [1, 2, 5, 6, 12, 13, 0, 3, 7, 14, 4, 8, 9, 10, 11, 15, 16]) (.nd 11 14 (.lf [1, 2, 5, 6, 12, 13, 0, 3, 7, 4, 8, 9, 10, 14, 11, 15, 16]) (.lf [1, 2, 5, 6, 12, 13, 0, 3, 7, 4, 8, 9, 10, 11, 14, 15, 16])))) (.nd 4 14 (.lf [1, 2, 5, 6, 12, 13, 0, 3, 14, 4, 7, 8, 9, 10, 11, 15, 16]) (.nd 11 14 (.lf [1, 2, 5, 6, 12, 13, 0, 3, 4, 7, 8, 9, 10, 14, 11, 15, 16]) (.lf [1, 2, 5, 6, 12, 13, 0, 3, 4, 7, 8, 9, 10, 11, 14, 15, 16])))) (by kernel_rfl) ?_; with_unfolding_all refine (And.intro (Nx.mk ?_) (And.intro (Nx.mk ?_) (And.intro (Nx.mk ?_) (And.intro (Nx.mk ?_) (And.intro (Nx.mk ?_) (And.intro (Nx.mk ?_) (And.intro (Nx.mk ?_) (And.intro (Nx.mk ?_) (And.intro (Nx.mk ?_) (And.intro (Nx.mk ?_) (And.intro (Nx.mk ?_) (And.intro (Nx.mk ?_) (And.intro (Nx.mk ?_) (And.intro (Nx.mk ?_) (And.intro (Nx.mk ?_) True.intro))))))))))))))) <;> conv => whnf)) | ((refine VC_draw (sf := []) tysOk (by kernel_rfl) (by kernel_rfl) (Nx.mk ?_); conv => whnf)) | (refine ⟨0, j, rfl, rfl, Nat.zero_le _, by omega, Nx.mk ?_⟩; conv => whnf)|(refine ⟨j, L.length, rfl, rfl, by omega, Nat.le_refl _, Nx.mk ?_⟩; conv => whnf)|(refine condN (show (0 : Nat) + _ ≤ 1073741824 by simp only [lenR]; omega) (Nx.mk ?_); conv => whnf)|(refine splitD (fun hs => Nx.mk ?_) (fun hs => Nx.mk ?_) <;> ((try simp only [Ct.len] at hs); revert hs; intro _; conv => whnf)) | (refine splitB (fun _ => Nx.mk ?_) (fun _ => Nx.mk ?_) <;> conv => whnf) | ((first | refine zA ?_ | refine zB ?_ | refine zC ?_ | refine zD ?_ | refine zE ?_ | refine zF ?_ | refine zG ?_ | fail); conv => whnf)|(refine nilQ (fun _ => Nx.mk ?_) (Nx.mk ?_) <;> conv => whnf) | ((first | refine condN Tryz.underlying4 (Nx.mk ?_) | refine zH ?_ | refine Nx.mk ?_); conv => whnf))
            (all_goals try first | contradiction | (exfalso; omega))
            all_goals
              refine ⟨i + 1, by omega, by omega, [(nm 55, nm 12)], rfl, ?_⟩
              ((try conv => whnf); refine ⟨rfl, by rfl, ?_, ?_⟩ <;> ((repeat' ((try conv => whnf); (first | exact zV | refine And.intro ?_ ?_ | refine cellJ (fun _ _ => ?_) | (refine cellB ?_; (conv => whnf); refine And.intro ?_ ?_) | fail))) <;> (try conv => whnf)))
              all_goals first | (simp only [List.nil_append, List.drop_zero, List.take_length] at hins ⊢; exact hins) | trace_state
        · obtain rfl : j = L.length := by omega
          have hins := ins_sorted hnd hx (by rw [hL]; exact Nat.le_refl _) (by rw [hL]; exact hall) (by rw [hL]; exact fun h => absurd h (Nat.lt_irrefl _))
          rw [hL, ← hz] at hins
          (repeat' first | ((with_reducible show VC _ (.region 9 _ true) _ _); exfalso; omega) | ((with_reducible show VC _ (.region 9 _ true) _ _); ((with_reducible show VC _ (.region _ _ true) _ _); refine VC_tree (sf := []) tysOk (by kernel_rfl) (.nd 4 7 (.nd 4 8 (.nd 4 9 (.nd 4 10 (.nd 4 14 (.lf [1, 2, 5, 6, 12, 13, 0, 3, 7, 8, 9, 10, 14, 4, 11, 15, 16]) (.nd 11 14 (.lf [1, 2, 5, 6, 12, 13, 0, 3, 7, 8, 9, 10, 4, 14, 11, 15, 16]) (.lf [1, 2, 5, 6, 12, 13, 0, 3, 7, 8, 9, 10, 4, 11, 14, 15, 16]))) (.nd 4 14 (.lf [1, 2, 5, 6, 12, 13, 0, 3, 7, 8, 9, 14, 4, 10, 11, 15, 16]) (.nd 11 14 (.lf [1, 2, 5, 6, 12, 13, 0, 3, 7, 8, 9, 4, 10, 14, 11, 15, 16]) (.lf [1, 2, 5, 6, 12, 13, 0, 3, 7, 8, 9, 4, 10, 11, 14, 15, 16])))) (.nd 4 14 (.lf [1, 2, 5, 6, 12, 13, 0, 3, 7, 8, 14, 4, 9, 10, 11, 15, 16]) (.nd 11 14 (.lf [1, 2, 5, 6, 12, 13, 0, 3, 7, 8, 4, 9, 10, 14, 11, 15, 16]) (.lf [1, 2, 5, 6, 12, 13, 0, 3, 7, 8, 4, 9, 10, 11, 14, 15, 16])))) (.nd 4 14 (.lf [1, 2, 5, 6, 12, 13, 0, 3, 7, 14, 4, 8, 9, 10, 11, 15, 16]) (.nd 11 14 (.lf [1, 2, 5, 6, 12, 13, 0, 3, 7, 4, 8, 9, 10, 14, 11, 15, 16]) (.lf [1, 2, 5, 6, 12, 13, 0, 3, 7, 4, 8, 9, 10, 11, 14, 15, 16])))) (.nd 4 14 (.lf [1, 2, 5, 6, 12, 13, 0, 3, 14, 4, 7, 8, 9, 10, 11, 15, 16]) (.nd 11 14 (.lf [1, 2, 5, 6, 12, 13, 0, 3, 4, 7, 8, 9, 10, 14, 11, 15, 16]) (.lf [1, 2, 5, 6, 12, 13, 0, 3, 4, 7, 8, 9, 10, 11, 14, 15, 16])))) (by kernel_rfl) ?_; with_unfolding_all refine (And.intro (Nx.mk ?_) (And.intro (Nx.mk ?_) (And.intro (Nx.mk ?_) (And.intro (Nx.mk ?_) (And.intro (Nx.mk ?_) (And.intro (Nx.mk ?_) (And.intro (Nx.mk ?_) (And.intro (Nx.mk ?_) (And.intro (Nx.mk ?_) (And.intro (Nx.mk ?_) (And.intro (Nx.mk ?_) (And.intro (Nx.mk ?_) (And.intro (Nx.mk ?_) (And.intro (Nx.mk ?_) (And.intro (Nx.mk ?_) True.intro))))))))))))))) <;> conv => whnf)) | ((refine VC_draw (sf := []) tysOk (by kernel_rfl) (by kernel_rfl) (Nx.mk ?_); conv => whnf)) | (refine ⟨0, L.length, rfl, rfl, Nat.zero_le _, Nat.le_refl _, Nx.mk ?_⟩; conv => whnf)|(refine ⟨L.length, L.length, rfl, rfl, Nat.le_refl _, Nat.le_refl _, Nx.mk ?_⟩; conv => whnf)|(refine condN (show (0 : Nat) + _ ≤ 1073741824 by simp only [lenR]; omega) (Nx.mk ?_); conv => whnf)|(refine splitD (fun hs => Nx.mk ?_) (fun hs => Nx.mk ?_) <;> ((try simp only [Ct.len] at hs); revert hs; intro _; conv => whnf)) | (refine splitB (fun _ => Nx.mk ?_) (fun _ => Nx.mk ?_) <;> conv => whnf) | ((first | refine zA ?_ | refine zB ?_ | refine zC ?_ | refine zD ?_ | refine zE ?_ | refine zF ?_ | refine zG ?_ | fail); conv => whnf)|(refine nilQ (fun _ => Nx.mk ?_) (Nx.mk ?_) <;> conv => whnf) | ((first | refine condN Tryz.underlying4 (Nx.mk ?_) | refine zH ?_ | refine Nx.mk ?_); conv => whnf))
          (all_goals try first | contradiction | (exfalso; omega))
          all_goals
            refine ⟨i + 1, by omega, by omega, [(nm 55, nm 12)], rfl, ?_⟩
            ((try conv => whnf); refine ⟨rfl, by rfl, ?_, ?_⟩ <;> ((repeat' ((try conv => whnf); (first | exact zV | refine And.intro ?_ ?_ | refine cellJ (fun _ _ => ?_) | (refine cellB ?_; (conv => whnf); refine And.intro ?_ ?_) | fail))) <;> (try conv => whnf)))
            all_goals first | (simp only [List.nil_append, List.drop_zero, List.take_length] at hins ⊢; exact hins) | trace_state
    · have hz := susK_no (xs := xs) hp
      have cp := cp.ff (by cases hq : prfB mk k m (xs.getD i default) with | false => rfl | true => exact absurd hq hp)
      (repeat' first | ((with_reducible show ∃ _ : Bool, _); first | (refine ⟨_, [], _, [], _, _, cp, rfl, trivial, zW, Nx.mk ?_⟩; conv => whnf)) | ((refine VC_draw (sf := []) tysOk (by kernel_rfl) (by kernel_rfl) (Nx.mk ?_); conv => whnf)) | (refine splitD (fun hs => Nx.mk ?_) (fun hs => Nx.mk ?_) <;> ((try simp only [Ct.len] at hs); revert hs; intro _; conv => whnf)) | (refine splitB (fun _ => Nx.mk ?_) (fun _ => Nx.mk ?_) <;> conv => whnf) | ((first | refine zA ?_ | refine zB ?_ | refine zC ?_ | refine zD ?_ | refine zE ?_ | refine zF ?_ | refine zG ?_ | fail); conv => whnf)|(refine nilQ (fun _ => Nx.mk ?_) (Nx.mk ?_) <;> conv => whnf) | ((first | refine condN Tryz.underlying4 (Nx.mk ?_) | refine zH ?_ | refine Nx.mk ?_); conv => whnf))
      (all_goals try first | contradiction | (exfalso; omega))
      refine ⟨i + 1, by omega, by omega, [], rfl, ?_⟩
      rw [hz]
      ((try conv => whnf); refine ⟨rfl, by rfl, ?_, ?_⟩ <;> ((repeat' ((try conv => whnf); (first | exact zV | refine And.intro ?_ ?_ | refine cellJ (fun _ _ => ?_) | (refine cellB ?_; (conv => whnf); refine And.intro ?_ ?_) | fail))) <;> (try conv => whnf)))
      all_goals trace_state
  · obtain rfl : i = xs.length := by omega
    (repeat' first | (refine splitD (fun hs => Nx.mk ?_) (fun hs => Nx.mk ?_) <;> ((try simp only [Ct.len] at hs); revert hs; intro _; conv => whnf)) | (refine splitB (fun _ => Nx.mk ?_) (fun _ => Nx.mk ?_) <;> conv => whnf) | ((first | refine zA ?_ | refine zB ?_ | refine zC ?_ | refine zD ?_ | refine zE ?_ | refine zF ?_ | refine zG ?_ | fail); conv => whnf)|(refine nilQ (fun _ => Nx.mk ?_) (Nx.mk ?_) <;> conv => whnf) | ((first | refine condN Tryz.underlying4 (Nx.mk ?_) | refine zH ?_ | refine Nx.mk ?_); conv => whnf))
    (all_goals try first | contradiction | (exfalso; omega))
    all_goals
      refine ⟨[(16, nm 12)], rfl, ?_, ?_, ?_, fun _ => ?_⟩
      · ((try conv => whnf); refine ⟨rfl, by rfl, ?_, ?_⟩ <;> ((repeat' ((try conv => whnf); (first | exact zV | refine And.intro ?_ ?_ | refine cellJ (fun _ _ => ?_) | (refine cellB ?_; (conv => whnf); refine And.intro ?_ ?_) | fail))) <;> (try conv => whnf)))
      all_goals ((repeat' ((try conv => whnf); (first | exact zV | refine And.intro ?_ ?_ | refine cellJ (fun _ _ => ?_) | (refine cellB ?_; (conv => whnf); refine And.intro ?_ ?_) | fail))) <;> (try conv => whnf))
theorem mset_sus {mk : Int} {k : HashKey_T} {m : Manifest_T} {xs : LinkPacketS_T} {i : Nat} (hp : prfB mk k m (xs.getD i default) = true) : mset (tru (susK mk k m xs i)) (xs.getD i default).1 true = tru (susK mk k m xs (i + 1)) := by
  cases hh : hasI (susK mk k m xs i) (xs.getD i default).1 with
  | true => rw [susK_has hh]; exact mset_tru' (hasI_mem'.1 hh)
  | false => rw [susK_add hp hh]; exact mset_tru (fun hx => by rw [hasI_mem'.2 hx] at hh; cases hh)
theorem iSus_fn (mk : Int) (k : HashKey_T) (m : Manifest_T) (xs : LinkPacketS_T) (h : sz_HashKey k ≤ 1048576) (h1 : sz_Manifest m ≤ 1048576) (h2 : sz_LinkPacketS xs ≤ 1048576) (hz : ∀ i, i < xs.length → W64 (xs.getD i default).1) : Fn Tryz.prog 12 true (.cons (.I mk) (.cons (.agg (HashKey_R k)) (.cons (.agg (Manifest_R m)) (.cons (.rs false xs.length 7 (cellsA LinkPacket_R xs)) .nil)))) [] (.os (rt 16)) [(16, .row 3 (.ints .i64 (susL mk k m xs)))] := by
  have hk : k.1.length ≤ 1048576 := h
  have hm : m.2.2.2.2.1.length ≤ 1048576 := h1
  unfold sz_LinkPacketS at h2
  have htt : tot (fun x : (Int) × (Int) × (Int) × ((Int) × (List Int) × (List Int) × Unit) × (Int) × Unit => sz_LinkPacket (x)) xs = xs.length + psum (fun x : (Int) × (Int) × (Int) × ((Int) × (List Int) × (List Int) × Unit) × (Int) × Unit => sz_LinkPacket (x)) xs xs.length := rfl
  (refine Fn_of tysOk Tryz.func12 rfl rfl (by simp [AV.len, Tryz.f12]) ⟨?_⟩; conv => whnf)
  (repeat' first | (refine splitD (fun hs => Nx.mk ?_) (fun hs => Nx.mk ?_) <;> ((try simp only [Ct.len] at hs); revert hs; intro _; conv => whnf)) | (refine splitB (fun _ => Nx.mk ?_) (fun _ => Nx.mk ?_) <;> conv => whnf) | ((first | refine zA ?_ | refine zB ?_ | refine zC ?_ | refine zD ?_ | refine zE ?_ | refine zF ?_ | refine zG ?_ | fail); conv => whnf)|(refine nilQ (fun _ => Nx.mk ?_) (Nx.mk ?_) <;> conv => whnf) | ((first | refine condN Tryz.underlying4 (Nx.mk ?_) | refine zH ?_ | refine Nx.mk ?_); conv => whnf))
  refine loopI tysOk [nm 11] (fun i : Nat => [(15, .I i)]) (fun i => [(nm 12, some (.mp 77 (.bools (tru (susK mk k m xs i)))))]) (fun i => i ≤ xs.length) (fun i => xs.length - i) 0 (Nat.zero_le _) ?_ ?_
  · ((try conv => whnf); refine ⟨rfl, by rfl, ?_, ?_⟩ <;> ((repeat' ((try conv => whnf); (first | exact zV | refine And.intro ?_ ?_ | refine cellJ (fun _ _ => ?_) | (refine cellB ?_; (conv => whnf); refine And.intro ?_ ?_) | fail))) <;> (try conv => whnf)))
    all_goals first | (rw [susK_zero]; exact tru_nil.symm) | (rw [susK_zero, tru_nil]; done) | trace_state
  intro i hi
  obtain ⟨hnd, hln, hfr⟩ := susK_nd (mk := mk) (k := k) (m := m) (xs := xs) (i := i)
  by_cases hlt : i < xs.length
  · have ht := tot_at (sz := fun x : (Int) × (Int) × (Int) × ((Int) × (List Int) × (List Int) × Unit) × (Int) × Unit => sz_LinkPacket (x)) hlt
    have cp := iPrf_fn mk k m (xs.getD i default) h h1 (by omega)
    by_cases hp : prfB mk k m (xs.getD i default) = true
    · have hms := mset_sus (xs := xs) hp
      have cp := cp.tt hp
      (repeat' first | ((with_reducible show ∃ _ : Bool, _); first | (refine ⟨_, [], _, [], _, _, cp, rfl, trivial, zW, Nx.mk ?_⟩; conv => whnf))  | (refine splitD (fun hs => Nx.mk ?_) (fun hs => Nx.mk ?_) <;> ((try simp only [Ct.len] at hs); revert hs; intro _; conv => whnf)) | (refine splitB (fun _ => Nx.mk ?_) (fun _ => Nx.mk ?_) <;> conv => whnf) | ((first | refine zA ?_ | refine zB ?_ | refine zC ?_ | refine zD ?_ | refine zE ?_ | refine zF ?_ | refine zG ?_ | fail); conv => whnf)|(refine nilQ (fun _ => Nx.mk ?_) (Nx.mk ?_) <;> conv => whnf) | ((first | refine condN Tryz.underlying4 (Nx.mk ?_) | refine zH ?_ | refine Nx.mk ?_); conv => whnf))
      (all_goals try first | contradiction | (exfalso; omega))
      refine ⟨i + 1, by omega, by omega, ?_⟩
      ((try conv => whnf); refine ⟨rfl, by rfl, ?_, ?_⟩ <;> ((repeat' ((try conv => whnf); (first | exact zV | refine And.intro ?_ ?_ | refine cellJ (fun _ _ => ?_) | (refine cellB ?_; (conv => whnf); refine And.intro ?_ ?_) | fail))) <;> (try conv => whnf)))
      all_goals first | exact hms | trace_state
    · have hzz := susK_no (xs := xs) hp
      have cp := cp.ff (by cases hq : prfB mk k m (xs.getD i default) with | false => rfl | true => exact absurd hq hp)
      (repeat' first | ((with_reducible show ∃ _ : Bool, _); first | (refine ⟨_, [], _, [], _, _, cp, rfl, trivial, zW, Nx.mk ?_⟩; conv => whnf))  | (refine splitD (fun hs => Nx.mk ?_) (fun hs => Nx.mk ?_) <;> ((try simp only [Ct.len] at hs); revert hs; intro _; conv => whnf)) | (refine splitB (fun _ => Nx.mk ?_) (fun _ => Nx.mk ?_) <;> conv => whnf) | ((first | refine zA ?_ | refine zB ?_ | refine zC ?_ | refine zD ?_ | refine zE ?_ | refine zF ?_ | refine zG ?_ | fail); conv => whnf)|(refine nilQ (fun _ => Nx.mk ?_) (Nx.mk ?_) <;> conv => whnf) | ((first | refine condN Tryz.underlying4 (Nx.mk ?_) | refine zH ?_ | refine Nx.mk ?_); conv => whnf))
      (all_goals try first | contradiction | (exfalso; omega))
      refine ⟨i + 1, by omega, by omega, ?_⟩
      rw [hzz]
      ((try conv => whnf); refine ⟨rfl, by rfl, ?_, ?_⟩ <;> ((repeat' ((try conv => whnf); (first | exact zV | refine And.intro ?_ ?_ | refine cellJ (fun _ _ => ?_) | (refine cellB ?_; (conv => whnf); refine And.intro ?_ ?_) | fail))) <;> (try conv => whnf)))
      all_goals trace_state
  · obtain rfl : i = xs.length := by omega
    have hS : susL mk k m xs = sortI (susK mk k m xs xs.length) := rfl
    have kW : ∀ p ∈ tru (susK mk k m xs xs.length), W64 p.1 := fun p hp => by
      have hm : p.1 ∈ (tru (susK mk k m xs xs.length)).map (·.1) := List.mem_map.2 ⟨p, hp, rfl⟩
      rw [tru_keys] at hm
      obtain ⟨j, hj, e⟩ := hfr _ hm
      rw [e]; exact hz j hj
    have kL : (tru (susK mk k m xs xs.length)).length ≤ 1048576 := by
      have : ((tru (susK mk k m xs xs.length)).map (·.1)).length = (susK mk k m xs xs.length).length := by rw [tru_keys]
      rw [List.length_map] at this
      omega
    have cs := sorted_fn (tru (susK mk k m xs xs.length)) kW kL
    rw [tru_keys, ← hS] at cs
    (repeat' first | ((with_reducible show ∃ _ : Bool, _); first | (refine ⟨_, [rt (nm 12)], _, _, _, _, keys_fn (.bools (tru (susK mk k m xs xs.length))), rfl, zW, zW, Nx.mk ?_⟩; conv => whnf)|(refine ⟨_, [rt (nm 12), rt (nm 29)], _, _, _, _, cs, rfl, zW, zW, Nx.mk ?_⟩; conv => whnf))  | (refine splitD (fun hs => Nx.mk ?_) (fun hs => Nx.mk ?_) <;> ((try simp only [Ct.len] at hs); revert hs; intro _; conv => whnf)) | (refine splitB (fun _ => Nx.mk ?_) (fun _ => Nx.mk ?_) <;> conv => whnf) | ((first | refine zA ?_ | refine zB ?_ | refine zC ?_ | refine zD ?_ | refine zE ?_ | refine zF ?_ | refine zG ?_ | fail); conv => whnf)|(refine nilQ (fun _ => Nx.mk ?_) (Nx.mk ?_) <;> conv => whnf) | ((first | refine condN Tryz.underlying4 (Nx.mk ?_) | refine zH ?_ | refine Nx.mk ?_); conv => whnf))
    (all_goals try first | contradiction | (exfalso; omega))
    all_goals
      refine ⟨[(16, nm 30)], rfl, ?_, ?_, ?_, fun _ => ?_⟩
      · ((try conv => whnf); refine ⟨rfl, by rfl, ?_, ?_⟩ <;> ((repeat' ((try conv => whnf); (first | exact zV | refine And.intro ?_ ?_ | refine cellJ (fun _ _ => ?_) | (refine cellB ?_; (conv => whnf); refine And.intro ?_ ?_) | fail))) <;> (try conv => whnf)))
      all_goals ((repeat' ((try conv => whnf); (first | exact zV | refine And.intro ?_ ?_ | refine cellJ (fun _ _ => ?_) | (refine cellB ?_; (conv => whnf); refine And.intro ?_ ?_) | fail))) <;> (try conv => whnf))
end Go.Proofs.YtbepgedckfhifaaGreat
