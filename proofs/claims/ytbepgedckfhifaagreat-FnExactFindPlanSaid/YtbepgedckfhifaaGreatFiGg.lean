/-
  What is reached, of the reference; TopologicalOrder of both.
-/
import Derived.Test.YtbepgedckfhifaaGreatFiGf
import Derived.Test.YtbepgedckfhifaaGreatFiFo
import Derived.Test.YtbepgedckfhifaaGreatFiVC
namespace Go.Proofs.YtbepgedckfhifaaGreat
set_option linter.unusedVariables false
set_option linter.unusedSimpArgs false
set_option maxRecDepth 100000
set_option maxHeartbeats 4000000
attribute [local irreducible] Fn
theorem rstart_zero {n : Nat} {l : List Int} : rstart n l 0 = List.replicate n false := rfl
theorem rstart_succ {n k : Nat} {l : List Int} : rstart n l (k + 1) = (rstart n l k).set (l.getD k 0).toNat true := rfl
theorem rr_zero {g : Gr} {s : List Bool} : rr g s 0 = s := rfl
theorem rr_succ {g : Gr} {s : List Bool} {n : Nat} : rr g s (n + 1) = rpass g (rr g s n) g.2.1.length := rfl
theorem rpass_zero {g : Gr} {s : List Bool} : rpass g s 0 = s := rfl
theorem rpass_yes {g : Gr} {s : List Bool} {n : Nat} (h : (rpass g s n).getD (g.2.1.getD n default).1.toNat false = true) : rpass g s (n + 1) = (rpass g s n).set (g.2.1.getD n default).2.1.toNat true := if_pos h
theorem rpass_no {g : Gr} {s : List Bool} {n : Nat} (h : (rpass g s n).getD (g.2.1.getD n default).1.toNat false = false) : rpass g s (n + 1) = rpass g s n := if_neg (fun h2 => by have h3 : (rpass g s n).getD (g.2.1.getD n default).1.toNat false = true := h2; rw [h] at h3; cases h3)
theorem reachL_eq {g : Gr} {l : List Int} : reachL g l = rr g (rstart g.1.toNat l l.length) g.1.toNat := rfl
theorem toL_zero {g : Gr} {a : Int} : toL g a 0 = [] := rfl
theorem tos_eq {g : Gr} {a : Int} : tos g a = toL g a (eFrom g a).length := rfl
theorem toL_succ' {g : Gr} {a : Int} {i : Nat} (h : i < (eFrom g a).length) : toL g a (i + 1) = toL g a i ++ [(g.2.1.getD ((eFrom g a).getD i 0).toNat default).2.1] := toL_succ h
theorem eFrom_leT {g : Gr} {a : Int} : (eFrom g a).length ≤ g.2.1.length := idxs_len
theorem eTo_leT {g : Gr} {a : Int} : (eTo g a).length ≤ g.2.1.length := idxs_len
theorem eFrom_okT {g : Gr} {a : Int} {k : Nat} (h : k < (eFrom g a).length) : 0 ≤ (eFrom g a).getD k 0 ∧ (eFrom g a).getD k 0 < g.2.1.length := ⟨(idxs_at h).1, (idxs_at h).2.1⟩
theorem eTo_okT {g : Gr} {a : Int} {k : Nat} (h : k < (eTo g a).length) : 0 ≤ (eTo g a).getD k 0 ∧ (eTo g a).getD k 0 < g.2.1.length := ⟨(idxs_at h).1, (idxs_at h).2.1⟩
theorem hasI_mem {xs : List Int} {x : Int} : hasI xs x = true ↔ x ∈ xs := memI_iff
theorem hasI_not {xs : List Int} {x : Int} (h : hasI xs x = false) : x ∉ xs := fun h2 => by rw [hasI_mem.2 h2] at h; cases h
theorem rdy_to {g : Gr} {out : List Int} {a : Int} : Rdy g out a ↔ a ∉ out ∧ ∀ i, i < (eTo g a).length → (g.2.1.getD ((eTo g a).getD i 0).toNat default).1 ∈ out := by
  unfold Rdy
  refine and_congr_right (fun _ => ⟨fun h i hi => ?_, fun h k hk he => ?_⟩)
  · have := idxs_at hi
    have h9 := eTo_okT hi
    exact h ((eTo g a).getD i 0).toNat (by omega) (of_decide_eq_true this.2.2)
  · have hm : (k : Int) ∈ eTo g a := idxs_mem.2 ⟨k, hk, rfl, decide_eq_true he⟩
    obtain ⟨i, hi, e⟩ := mem_getD hm
    have := h i hi
    rw [e] at this
    exact this
open Classical in
noncomputable def acyB (g : Gr) : Bool := decide (ValidG g ∧ Acyc g)
theorem acyB_iff {g : Gr} : acyB g = true ↔ ValidG g ∧ Acyc g := by simp [acyB]
theorem acyB_true {g : Gr} (h : ValidG g ∧ Acyc g) : true = acyB g := (acyB_iff.2 h).symm
theorem acyB_false {g : Gr} (h : ¬ (ValidG g ∧ Acyc g)) : false = acyB g := by simp [acyB, h]
noncomputable def topoL (g : Gr) : List Int := if acyB g = true then topR g g.1.toNat else []
theorem topoL_yes {g : Gr} (h : acyB g = true) : topoL g = topR g g.1.toNat := if_pos h
theorem topoL_no {g : Gr} (h : acyB g = false) : topoL g = [] := if_neg (by simp [h])
theorem topR_step {g : Gr} {n a : Nat} (ha : (a : Int) < g.1) (h : Rdy g (topR g n) a) (hn : ∀ b : Nat, b < a → ¬ Rdy g (topR g n) (b : Int)) : topR g (n + 1) = topR g n ++ [(a : Int)] := by
  show (match nextN g (topR g n) with | some a => topR g n ++ [(a : Int)] | none => topR g n) = _
  rw [nextN_at ha h hn]
theorem topR_grow {g : Gr} {n : Nat} (hv : ValidG g) (hc : Acyc g) (hl : (topR g n).length = n) (hn : n < g.1.toNat) : ∃ a : Nat, (a : Int) < g.1 ∧ Rdy g (topR g n) a := by
  cases h : nextN g (topR g n) with
  | none => exact absurd h (acyc_next hv topR_inv (by omega) hc)
  | some a => exact ⟨a, nextN_some h⟩
theorem topR_zero {g : Gr} : topR g 0 = [] := rfl
theorem topoL_len {g : Gr} : (topoL g).length ≤ 8 := by
  cases h : acyB g with
  | true => rw [topoL_yes h]; have h1 := topR_le (g := g) (n := g.1.toNat); have h2 := (acyB_iff.1 h).1.hi; omega
  | false => rw [topoL_no h]; simp
attribute [local irreducible] rstart rr rpass reachL toL tos eFrom eTo topR topoL acyB hasI
theorem sReach_fn (g : Gr) (l : List Int) (hv : ValidG g) (hl : l.length ≤ 1048576) (hr : ∀ k, k < l.length → 0 ≤ l.getD k 0 ∧ l.getD k 0 < g.1) : Fn Tryz.prog 157 true (.cons (GrA g) (.cons (.ri false .i64 l) .nil)) [] (.os (rt 16)) [(16, .row 4 (.bools (reachL g l)))] := by
  have hlen := hv.len
  have hg1 := hv.lo
  have hg2 := hv.hi
  (refine Fn_of tysOk Tryz.func157 rfl rfl (by simp [AV.len, Tryz.f157]) ⟨?_⟩; conv => whnf)
  (repeat' first | (refine zK (fun hs => ?_) (fun hs => ?_) <;> ((try simp only [Ct.len] at hs); revert hs; intro _; conv => whnf)) | (refine zI (fun _ => ?_) (fun _ => ?_)<;> conv => whnf)|((first|refine zA ?_|refine zB ?_|refine zC ?_|refine zD ?_|refine zE ?_|refine zF ?_|refine zG ?_|fail); conv => whnf)|(refine zJ (fun _ => ?_) ?_<;> conv => whnf)|((first | refine condN Tryz.underlying4 (Nx.mk ?_) | refine zH ?_ | refine Nx.mk ?_); conv => whnf))
  refine ⟨g.1.toNat, g.1.toNat, by omega, by omega, Nat.le_refl _, by omega, Nx.mk ?_⟩
  conv => whnf
  (repeat' first | (refine zK (fun hs => ?_) (fun hs => ?_) <;> ((try simp only [Ct.len] at hs); revert hs; intro _; conv => whnf)) | (refine zI (fun _ => ?_) (fun _ => ?_)<;> conv => whnf)|((first|refine zA ?_|refine zB ?_|refine zC ?_|refine zD ?_|refine zE ?_|refine zF ?_|refine zG ?_|fail); conv => whnf)|(refine zJ (fun _ => ?_) ?_<;> conv => whnf)|((first | refine condN Tryz.underlying4 (Nx.mk ?_) | refine zH ?_ | refine Nx.mk ?_); conv => whnf))
  refine loopI tysOk [] (fun i : Nat => [(6, .I i)]) (fun i => [(nm 11, some (.row 4 (.bools (rstart g.1.toNat l i))))]) (fun i => i ≤ l.length) (fun i => l.length - i) 0 (Nat.zero_le _) ?_ ?_
  · ((try conv => whnf); refine ⟨rfl, by rfl, ?_, ?_⟩ <;> ((repeat' ((try conv => whnf); (first|exact zU|refine And.intro ?_ ?_|exact fun _ _ _ _ => Eq.refl _|refine cellJ (fun _ _ => ?_)|(refine cellB ?_; (conv => whnf); refine And.intro ?_ ?_)|exact zV|fail))) <;> (try conv => whnf)))
    exact rstart_zero.symm
  · intro i hi
    have hsl := rstart_len (n := g.1.toNat) (l := l) (k := i)
    have hri := hr i
    (repeat' first | (refine zK (fun hs => ?_) (fun hs => ?_) <;> ((try simp only [Ct.len] at hs); revert hs; intro _; conv => whnf)) | (refine zI (fun _ => ?_) (fun _ => ?_)<;> conv => whnf)|((first|refine zA ?_|refine zB ?_|refine zC ?_|refine zD ?_|refine zE ?_|refine zF ?_|refine zG ?_|fail); conv => whnf)|(refine zJ (fun _ => ?_) ?_<;> conv => whnf)|((first | refine condN Tryz.underlying4 (Nx.mk ?_) | refine zH ?_ | refine Nx.mk ?_); conv => whnf))
    · have hri := hri (by omega)
      (repeat' first | (refine zK (fun hs => ?_) (fun hs => ?_) <;> ((try simp only [Ct.len] at hs); revert hs; intro _; conv => whnf)) | (refine zI (fun _ => ?_) (fun _ => ?_)<;> conv => whnf)|((first|refine zA ?_|refine zB ?_|refine zC ?_|refine zD ?_|refine zE ?_|refine zF ?_|refine zG ?_|fail); conv => whnf)|(refine zJ (fun _ => ?_) ?_<;> conv => whnf)|((first | refine condN Tryz.underlying4 (Nx.mk ?_) | refine zH ?_ | refine Nx.mk ?_); conv => whnf))
      refine ⟨i + 1, by omega, by omega, ?_⟩
      ((try conv => whnf); refine ⟨rfl, by rfl, ?_, ?_⟩ <;> ((repeat' ((try conv => whnf); (first|exact zU|refine And.intro ?_ ?_|exact fun _ _ _ _ => Eq.refl _|refine cellJ (fun _ _ => ?_)|(refine cellB ?_; (conv => whnf); refine And.intro ?_ ?_)|exact zV|fail))) <;> (try conv => whnf)))
      exact rstart_succ.symm
    · have ei : i = l.length := by omega
      subst ei
      refine loopI tysOk [] (fun r : Nat => [(7, .I r)]) (fun r => [(nm 11, some (.row 4 (.bools (rr g (rstart g.1.toNat l l.length) r))))]) (fun r => r ≤ g.1.toNat) (fun r => g.1.toNat - r) 0 (Nat.zero_le _) ?_ ?_
      · ((try conv => whnf); refine ⟨rfl, by rfl, ?_, ?_⟩ <;> ((repeat' ((try conv => whnf); (first|exact zU|refine And.intro ?_ ?_|exact fun _ _ _ _ => Eq.refl _|refine cellJ (fun _ _ => ?_)|(refine cellB ?_; (conv => whnf); refine And.intro ?_ ?_)|exact zV|fail))) <;> (try conv => whnf)))
        exact rr_zero.symm
      · intro r hrr
        have hrl := rr_len (g := g) (s := rstart g.1.toNat l l.length) (n := r)
        (repeat' first | (refine zK (fun hs => ?_) (fun hs => ?_) <;> ((try simp only [Ct.len] at hs); revert hs; intro _; conv => whnf)) | (refine zI (fun _ => ?_) (fun _ => ?_)<;> conv => whnf)|((first|refine zA ?_|refine zB ?_|refine zC ?_|refine zD ?_|refine zE ?_|refine zF ?_|refine zG ?_|fail); conv => whnf)|(refine zJ (fun _ => ?_) ?_<;> conv => whnf)|((first | refine condN Tryz.underlying4 (Nx.mk ?_) | refine zH ?_ | refine Nx.mk ?_); conv => whnf))
        · generalize hcc : rr g (rstart g.1.toNat l l.length) r = c at *
          refine loopI tysOk [] (fun j : Nat => [(8, .I j)]) (fun j => [(nm 11, some (.row 4 (.bools (rpass g c j))))]) (fun j => j ≤ g.2.1.length) (fun j => g.2.1.length - j) 0 (Nat.zero_le _) ?_ ?_
          · ((try conv => whnf); refine ⟨rfl, by rfl, ?_, ?_⟩ <;> ((repeat' ((try conv => whnf); (first|exact zU|refine And.intro ?_ ?_|exact fun _ _ _ _ => Eq.refl _|refine cellJ (fun _ _ => ?_)|(refine cellB ?_; (conv => whnf); refine And.intro ?_ ?_)|exact zV|fail))) <;> (try conv => whnf)))
            exact rpass_zero.symm
          · intro j hj
            have hpl := rpass_len (g := g) (s := c) (n := j)
            have hends : j < g.2.1.length → _ := hv.ends (i := j)
            by_cases hjl : j < g.2.1.length
            · have he := hends hjl
              (repeat' first | (refine zK (fun hs => ?_) (fun hs => ?_) <;> ((try simp only [Ct.len] at hs); revert hs; intro _; conv => whnf)) | (refine zI (fun _ => ?_) (fun _ => ?_)<;> conv => whnf)|((first|refine zA ?_|refine zB ?_|refine zC ?_|refine zD ?_|refine zE ?_|refine zF ?_|refine zG ?_|fail); conv => whnf)|(refine zJ (fun _ => ?_) ?_<;> conv => whnf)|((first | refine condN Tryz.underlying4 (Nx.mk ?_) | refine zH ?_ | refine Nx.mk ?_); conv => whnf))
              (all_goals try first | contradiction | (exfalso; omega))
              · refine ⟨j + 1, by omega, by omega, ?_⟩
                ((try conv => whnf); refine ⟨rfl, by rfl, ?_, ?_⟩ <;> ((repeat' ((try conv => whnf); (first|exact zU|refine And.intro ?_ ?_|exact fun _ _ _ _ => Eq.refl _|refine cellJ (fun _ _ => ?_)|(refine cellB ?_; (conv => whnf); refine And.intro ?_ ?_)|exact zV|fail))) <;> (try conv => whnf)))
                exact (rpass_yes (by assumption)).symm
              · refine ⟨j + 1, by omega, by omega, ?_⟩
                ((try conv => whnf); refine ⟨rfl, by rfl, ?_, ?_⟩ <;> ((repeat' ((try conv => whnf); (first|exact zU|refine And.intro ?_ ?_|exact fun _ _ _ _ => Eq.refl _|refine cellJ (fun _ _ => ?_)|(refine cellB ?_; (conv => whnf); refine And.intro ?_ ?_)|exact zV|fail))) <;> (try conv => whnf)))
                exact (rpass_no (by assumption)).symm
            · have e : j = g.2.1.length := by omega
              subst e
              (repeat' first | (refine zK (fun hs => ?_) (fun hs => ?_) <;> ((try simp only [Ct.len] at hs); revert hs; intro _; conv => whnf)) | (refine zI (fun _ => ?_) (fun _ => ?_)<;> conv => whnf)|((first|refine zA ?_|refine zB ?_|refine zC ?_|refine zD ?_|refine zE ?_|refine zF ?_|refine zG ?_|fail); conv => whnf)|(refine zJ (fun _ => ?_) ?_<;> conv => whnf)|((first | refine condN Tryz.underlying4 (Nx.mk ?_) | refine zH ?_ | refine Nx.mk ?_); conv => whnf))
              (all_goals try first | contradiction | (exfalso; omega))
              refine ⟨r + 1, by omega, by omega, ?_⟩
              ((try conv => whnf); refine ⟨rfl, by rfl, ?_, ?_⟩ <;> ((repeat' ((try conv => whnf); (first|exact zU|refine And.intro ?_ ?_|exact fun _ _ _ _ => Eq.refl _|refine cellJ (fun _ _ => ?_)|(refine cellB ?_; (conv => whnf); refine And.intro ?_ ?_)|exact zV|fail))) <;> (try conv => whnf)))
              rw [rr_succ, hcc]
        · have er : r = g.1.toNat := by omega
          rw [er, ← reachL_eq]
          refine ⟨[(16, nm 11)], rfl, ?_, ?_, ?_, fun _ => ?_⟩
          · ((try conv => whnf); refine ⟨rfl, by rfl, ?_, ?_⟩ <;> ((repeat' ((try conv => whnf); (first|exact zU|refine And.intro ?_ ?_|exact fun _ _ _ _ => Eq.refl _|refine cellJ (fun _ _ => ?_)|(refine cellB ?_; (conv => whnf); refine And.intro ?_ ?_)|exact zV|fail))) <;> (try conv => whnf)))
          all_goals ((repeat' ((try conv => whnf); (first|exact zU|refine And.intro ?_ ?_|exact fun _ _ _ _ => Eq.refl _|refine cellJ (fun _ _ => ?_)|(refine cellB ?_; (conv => whnf); refine And.intro ?_ ?_)|exact zV|fail))) <;> (try conv => whnf))
theorem sAcyc_fn (g : Gr) (h : g.2.1.length ≤ 1048576) : Fn Tryz.prog 109 true (.cons (GrA g) .nil) [] (.b (acyB g)) [] := by
  (refine Fn_of tysOk Tryz.func109 rfl rfl (by simp [AV.len, Tryz.f109]) ⟨?_⟩; conv => whnf)
  (repeat' first | ((with_reducible show ∃ _ : Bool, _); first | (refine ⟨_, [], _, [], _, _, sValid_fn g h, rfl, trivial, zW, Nx.mk ?_⟩; conv => whnf))  | (refine zK (fun hs => ?_) (fun hs => ?_) <;> ((try simp only [Ct.len] at hs); revert hs; intro _; conv => whnf)) | (refine zI (fun _ => ?_) (fun _ => ?_)<;> conv => whnf)|((first|refine zA ?_|refine zB ?_|refine zC ?_|refine zD ?_|refine zE ?_|refine zF ?_|refine zG ?_|fail); conv => whnf)|(refine zJ (fun _ => ?_) ?_<;> conv => whnf)|((first | refine condN Tryz.underlying4 (Nx.mk ?_) | refine zH ?_ | refine Nx.mk ?_); conv => whnf))
  · rename_i hv
    have hV := validG_iff.1 hv
    have hlen := hV.len
    have hg1 := hV.lo
    have hg2 := hV.hi
    refine loopI tysOk [nm 40] (fun a : Nat => [(3, .I a)]) (fun a => []) (fun a => a ≤ g.1.toNat ∧ ∀ b : Nat, b < a → (reachL g (tos g b)).getD b false = false) (fun a => g.1.toNat - a) 0 ⟨Nat.zero_le _, fun b hb => by omega⟩ ?_ ?_
    · ((try conv => whnf); refine ⟨rfl, by rfl, ?_, ?_⟩ <;> ((repeat' ((try conv => whnf); (first|exact zU|refine And.intro ?_ ?_|exact fun _ _ _ _ => Eq.refl _|refine cellJ (fun _ _ => ?_)|(refine cellB ?_; (conv => whnf); refine And.intro ?_ ?_)|exact zV|fail))) <;> (try conv => whnf)))
    · rintro a ⟨ha, hall⟩
      (repeat' first | ((with_reducible show ∃ _ : Bool, _); first | (refine ⟨_, [], _, [], _, _, sFrom_fn g a h, rfl, trivial, zW, Nx.mk ?_⟩; conv => whnf))  | (refine zK (fun hs => ?_) (fun hs => ?_) <;> ((try simp only [Ct.len] at hs); revert hs; intro _; conv => whnf)) | (refine zI (fun _ => ?_) (fun _ => ?_)<;> conv => whnf)|((first|refine zA ?_|refine zB ?_|refine zC ?_|refine zD ?_|refine zE ?_|refine zF ?_|refine zG ?_|fail); conv => whnf)|(refine zJ (fun _ => ?_) ?_<;> conv => whnf)|((first | refine condN Tryz.underlying4 (Nx.mk ?_) | refine zH ?_ | refine Nx.mk ?_); conv => whnf))
      · refine loopI tysOk [nm 16] (fun i : Nat => [(6, .I i), (4, .os (rt (nm 16)))]) (fun i => [(nm 16, some (.row 3 (.ints .i64 (toL g a i))))]) (fun i => i ≤ (eFrom g a).length) (fun i => (eFrom g a).length - i) 0 (Nat.zero_le _) ?_ ?_
        · ((try conv => whnf); refine ⟨rfl, by rfl, ?_, ?_⟩ <;> ((repeat' ((try conv => whnf); (first|exact zU|refine And.intro ?_ ?_|exact fun _ _ _ _ => Eq.refl _|refine cellJ (fun _ _ => ?_)|(refine cellB ?_; (conv => whnf); refine And.intro ?_ ?_)|exact zV|fail))) <;> (try conv => whnf)))
          exact toL_zero.symm
        · intro i hi
          have hle : (eFrom g a).length ≤ g.2.1.length := eFrom_leT
          have htl := toL_len hi
          have hok2 : i < (eFrom g a).length → _ := fun h => eFrom_okT (g := g) (a := a) (k := i) h
          by_cases hil : i < (eFrom g a).length
          · have hx := hok2 hil
            (repeat' first | (refine zK (fun hs => ?_) (fun hs => ?_) <;> ((try simp only [Ct.len] at hs); revert hs; intro _; conv => whnf)) | (refine zI (fun _ => ?_) (fun _ => ?_)<;> conv => whnf)|((first|refine zA ?_|refine zB ?_|refine zC ?_|refine zD ?_|refine zE ?_|refine zF ?_|refine zG ?_|fail); conv => whnf)|(refine zJ (fun _ => ?_) ?_<;> conv => whnf)|((first | refine condN Tryz.underlying4 (Nx.mk ?_) | refine zH ?_ | refine Nx.mk ?_); conv => whnf))
            (all_goals try first | contradiction | (exfalso; omega))
            (refine VC_draw (sf := []) tysOk (by kernel_rfl) (by kernel_rfl) (Nx.mk ?_); conv => whnf)
            (repeat' first | (refine zK (fun hs => ?_) (fun hs => ?_) <;> ((try simp only [Ct.len] at hs); revert hs; intro _; conv => whnf)) | (refine zI (fun _ => ?_) (fun _ => ?_)<;> conv => whnf)|((first|refine zA ?_|refine zB ?_|refine zC ?_|refine zD ?_|refine zE ?_|refine zF ?_|refine zG ?_|fail); conv => whnf)|(refine zJ (fun _ => ?_) ?_<;> conv => whnf)|((first | refine condN Tryz.underlying4 (Nx.mk ?_) | refine zH ?_ | refine Nx.mk ?_); conv => whnf))
            refine ⟨i + 1, by omega, by omega, ?_⟩
            ((try conv => whnf); refine ⟨rfl, by rfl, ?_, ?_⟩ <;> ((repeat' ((try conv => whnf); (first|exact zU|refine And.intro ?_ ?_|exact fun _ _ _ _ => Eq.refl _|refine cellJ (fun _ _ => ?_)|(refine cellB ?_; (conv => whnf); refine And.intro ?_ ?_)|exact zV|fail))) <;> (try conv => whnf)))
            exact (toL_succ' hil).symm
          · have e : i = (eFrom g a).length := by omega
            subst e
            have htl2 : (tos g a).length = (eFrom g a).length := by rw [tos_eq]; exact htl
            have cr := sReach_fn g (tos g a) hV (by omega) (tos_rng hV)
            have hrl := reachL_len (g := g) (l := tos g a)
            rw [← tos_eq]
            (repeat' first | ((with_reducible show ∃ _ : Bool, _); first | (refine ⟨_, [], _, [], _, _, cr, rfl, trivial, zW, Nx.mk ?_⟩; conv => whnf))  | (refine zK (fun hs => ?_) (fun hs => ?_) <;> ((try simp only [Ct.len] at hs); revert hs; intro _; conv => whnf)) | (refine zI (fun _ => ?_) (fun _ => ?_)<;> conv => whnf)|((first|refine zA ?_|refine zB ?_|refine zC ?_|refine zD ?_|refine zE ?_|refine zF ?_|refine zG ?_|fail); conv => whnf)|(refine zJ (fun _ => ?_) ?_<;> conv => whnf)|((first | refine condN Tryz.underlying4 (Nx.mk ?_) | refine zH ?_ | refine Nx.mk ?_); conv => whnf))
            (all_goals try first | contradiction | (exfalso; omega))
            · (refine ⟨[], rfl, ⟨rfl, rfl, trivial, trivial⟩, ?_, ⟨?_, trivial⟩, fun _ => ⟨?_, trivial⟩⟩ <;> ((repeat' ((try conv => whnf); (first|exact zU|refine And.intro ?_ ?_|exact fun _ _ _ _ => Eq.refl _|refine cellJ (fun _ _ => ?_)|(refine cellB ?_; (conv => whnf); refine And.intro ?_ ?_)|exact zV|fail))) <;> (try conv => whnf)))
              rename_i h3
              exact acyB_false (fun hq => by rw [hq.2 a (by omega)] at h3; cases h3)
            · refine ⟨a + 1, ⟨by omega, fun b hb => ?_⟩, by omega, ?_⟩
              · by_cases e : b = a
                · rw [e]; assumption
                · exact hall b (by omega)
              · ((try conv => whnf); refine ⟨rfl, by rfl, ?_, ?_⟩ <;> ((repeat' ((try conv => whnf); (first|exact zU|refine And.intro ?_ ?_|exact fun _ _ _ _ => Eq.refl _|refine cellJ (fun _ _ => ?_)|(refine cellB ?_; (conv => whnf); refine And.intro ?_ ?_)|exact zV|fail))) <;> (try conv => whnf)))
      · (refine ⟨[], rfl, ⟨rfl, rfl, trivial, trivial⟩, ?_, ⟨?_, trivial⟩, fun _ => ⟨?_, trivial⟩⟩ <;> ((repeat' ((try conv => whnf); (first|exact zU|refine And.intro ?_ ?_|exact fun _ _ _ _ => Eq.refl _|refine cellJ (fun _ _ => ?_)|(refine cellB ?_; (conv => whnf); refine And.intro ?_ ?_)|exact zV|fail))) <;> (try conv => whnf)))
        exact acyB_true ⟨hV, fun b hb => hall b (by omega)⟩
  · (refine ⟨[], rfl, ⟨rfl, rfl, trivial, trivial⟩, ?_, ⟨?_, trivial⟩, fun _ => ⟨?_, trivial⟩⟩ <;> ((repeat' ((try conv => whnf); (first|exact zU|refine And.intro ?_ ?_|exact fun _ _ _ _ => Eq.refl _|refine cellJ (fun _ _ => ?_)|(refine cellB ?_; (conv => whnf); refine And.intro ?_ ?_)|exact zV|fail))) <;> (try conv => whnf)))
    rename_i hv
    exact acyB_false (fun hq => by rw [validG_iff.2 hq.1] at hv; cases hv)
theorem sTopo_fn (g : Gr) (h : g.2.1.length ≤ 1048576) : Fn Tryz.prog 64 true (.cons (GrA g) .nil) [] (.tup (.cons (.os (rt 16)) (.cons (.b (acyB g)) .nil))) [(16, .row 3 (.ints .i64 (topoL g)))] := by
  (refine Fn_of tysOk Tryz.func64 rfl rfl (by simp [AV.len, Tryz.f64]) ⟨?_⟩; conv => whnf)
  cases hac : acyB g with
  | false =>
    rw [topoL_no hac]
    have ca := sAcyc_fn g h
    rw [hac] at ca
    (repeat' first | ((with_reducible show ∃ _ : Bool, _); first | (refine ⟨_, [], _, [], _, _, ca, rfl, trivial, zW, Nx.mk ?_⟩; conv => whnf))  | (refine zK (fun hs => ?_) (fun hs => ?_) <;> ((try simp only [Ct.len] at hs); revert hs; intro _; conv => whnf)) | (refine zI (fun _ => ?_) (fun _ => ?_)<;> conv => whnf)|((first|refine zA ?_|refine zB ?_|refine zC ?_|refine zD ?_|refine zE ?_|refine zF ?_|refine zG ?_|fail); conv => whnf)|(refine zJ (fun _ => ?_) ?_<;> conv => whnf)|((first | refine condN Tryz.underlying4 (Nx.mk ?_) | refine zH ?_ | refine Nx.mk ?_); conv => whnf))
    (all_goals try first | contradiction | (exfalso; omega))
    refine ⟨[(16, nm 9)], rfl, ?_, ?_, ?_, fun _ => ?_⟩
    · ((try conv => whnf); refine ⟨rfl, by rfl, ?_, ?_⟩ <;> ((repeat' ((try conv => whnf); (first|exact zU|refine And.intro ?_ ?_|exact fun _ _ _ _ => Eq.refl _|refine cellJ (fun _ _ => ?_)|(refine cellB ?_; (conv => whnf); refine And.intro ?_ ?_)|exact zV|fail))) <;> (try conv => whnf)))
    all_goals ((repeat' ((try conv => whnf); (first|exact zU|refine And.intro ?_ ?_|exact fun _ _ _ _ => Eq.refl _|refine cellJ (fun _ _ => ?_)|(refine cellB ?_; (conv => whnf); refine And.intro ?_ ?_)|exact zV|fail))) <;> (try conv => whnf))
  | true =>
    obtain ⟨hV, hA⟩ := acyB_iff.1 hac
    have hlen := hV.len
    have hg1 := hV.lo
    have hg2 := hV.hi
    rw [topoL_yes hac]
    (repeat' first | ((with_reducible show ∃ _ : Bool, _); first | (refine ⟨_, [], _, [], _, _, (sAcyc_fn g h).tt hac, rfl, trivial, zW, Nx.mk ?_⟩; conv => whnf))  | (refine zK (fun hs => ?_) (fun hs => ?_) <;> ((try simp only [Ct.len] at hs); revert hs; intro _; conv => whnf)) | (refine zI (fun _ => ?_) (fun _ => ?_)<;> conv => whnf)|((first|refine zA ?_|refine zB ?_|refine zC ?_|refine zD ?_|refine zE ?_|refine zF ?_|refine zG ?_|fail); conv => whnf)|(refine zJ (fun _ => ?_) ?_<;> conv => whnf)|((first | refine condN Tryz.underlying4 (Nx.mk ?_) | refine zH ?_ | refine Nx.mk ?_); conv => whnf))
    refine loopI tysOk [nm 9] (fun r : Nat => [(4, .os (rt (nm 9)))]) (fun r => [(nm 9, some (.row 3 (.ints .i64 (topR g r))))]) (fun r => r ≤ g.1.toNat ∧ (topR g r).length = r) (fun r => g.1.toNat - r) 0 ⟨Nat.zero_le _, by rw [topR_zero]; rfl⟩ ?_ ?_
    · ((try conv => whnf); refine ⟨rfl, by rfl, ?_, ?_⟩ <;> ((repeat' ((try conv => whnf); (first|exact zU|refine And.intro ?_ ?_|exact fun _ _ _ _ => Eq.refl _|refine cellJ (fun _ _ => ?_)|(refine cellB ?_; (conv => whnf); refine And.intro ?_ ?_)|exact zV|fail))) <;> (try conv => whnf)))
      exact topR_zero.symm
    · rintro r ⟨hr, hrl⟩
      by_cases hrn : r < g.1.toNat
      · obtain ⟨a0, ha0, hrd0⟩ := topR_grow hV hA hrl hrn
        (repeat' first | (refine zK (fun hs => ?_) (fun hs => ?_) <;> ((try simp only [Ct.len] at hs); revert hs; intro _; conv => whnf)) | (refine zI (fun _ => ?_) (fun _ => ?_)<;> conv => whnf)|((first|refine zA ?_|refine zB ?_|refine zC ?_|refine zD ?_|refine zE ?_|refine zF ?_|refine zG ?_|fail); conv => whnf)|(refine zJ (fun _ => ?_) ?_<;> conv => whnf)|((first | refine condN Tryz.underlying4 (Nx.mk ?_) | refine zH ?_ | refine Nx.mk ?_); conv => whnf))
        (all_goals try first | contradiction | (exfalso; omega))
        refine loopI tysOk [] (fun a : Nat => [(5, .I a), (4, .os (rt (nm 9)))]) (fun a => []) (fun a => a ≤ g.1.toNat ∧ ∀ b : Nat, b < a → ¬ Rdy g (topR g r) (b : Int)) (fun a => g.1.toNat - a) 0 ⟨Nat.zero_le _, fun b hb => by omega⟩ ?_ ?_
        · ((try conv => whnf); refine ⟨rfl, by rfl, ?_, ?_⟩ <;> ((repeat' ((try conv => whnf); (first|exact zU|refine And.intro ?_ ?_|exact fun _ _ _ _ => Eq.refl _|refine cellJ (fun _ _ => ?_)|(refine cellB ?_; (conv => whnf); refine And.intro ?_ ?_)|exact zV|fail))) <;> (try conv => whnf)))
        · rintro a ⟨ha, hall⟩
          have ch := sHas_fn (topR g r) (a : Int) (by omega)
          by_cases han : a < g.1.toNat
          · (repeat' first | ((with_reducible show ∃ _ : Bool, _); first | (refine ⟨_, [], _, [], _, _, ch, rfl, trivial, zW, Nx.mk ?_⟩; conv => whnf)|(refine ⟨_, [], _, [], _, _, sTo_fn g a h, rfl, trivial, zW, Nx.mk ?_⟩; conv => whnf))  | (refine zK (fun hs => ?_) (fun hs => ?_) <;> ((try simp only [Ct.len] at hs); revert hs; intro _; conv => whnf)) | (refine zI (fun _ => ?_) (fun _ => ?_)<;> conv => whnf)|((first|refine zA ?_|refine zB ?_|refine zC ?_|refine zD ?_|refine zE ?_|refine zF ?_|refine zG ?_|fail); conv => whnf)|(refine zJ (fun _ => ?_) ?_<;> conv => whnf)|((first | refine condN Tryz.underlying4 (Nx.mk ?_) | refine zH ?_ | refine Nx.mk ?_); conv => whnf))
            (all_goals try first | contradiction | (exfalso; omega))
            · rename_i hin
              refine ⟨a + 1, ⟨by omega, fun b hb => ?_⟩, by omega, ?_⟩
              · by_cases e : b = a
                · rw [e]; exact fun h2 => h2.1 (hasI_mem.1 hin)
                · exact hall b (by omega)
              · ((try conv => whnf); refine ⟨rfl, by rfl, ?_, ?_⟩ <;> ((repeat' ((try conv => whnf); (first|exact zU|refine And.intro ?_ ?_|exact fun _ _ _ _ => Eq.refl _|refine cellJ (fun _ _ => ?_)|(refine cellB ?_; (conv => whnf); refine And.intro ?_ ?_)|exact zV|fail))) <;> (try conv => whnf)))
            · rename_i hnin
              refine loopI tysOk [] (fun i : Nat × Bool => [(8, .I i.1), (6, .b i.2)]) (fun i => []) (fun i => i.1 ≤ (eTo g a).length ∧ (i.2 = true ↔ ∀ k, k < i.1 → (g.2.1.getD ((eTo g a).getD k 0).toNat default).1 ∈ topR g r)) (fun i => (eTo g a).length - i.1) (0, true) ⟨Nat.zero_le _, ⟨fun _ k hk => by omega, fun _ => rfl⟩⟩ ?_ ?_
              · ((try conv => whnf); refine ⟨rfl, by rfl, ?_, ?_⟩ <;> ((repeat' ((try conv => whnf); (first|exact zU|refine And.intro ?_ ?_|exact fun _ _ _ _ => Eq.refl _|refine cellJ (fun _ _ => ?_)|(refine cellB ?_; (conv => whnf); refine And.intro ?_ ?_)|exact zV|fail))) <;> (try conv => whnf)))
              · rintro ⟨i, rd⟩ ⟨hi, hiff⟩
                simp only at hi hiff
                dsimp only
                have hle : (eTo g a).length ≤ g.2.1.length := eTo_leT
                have hok2 : i < (eTo g a).length → _ := fun h => eTo_okT (g := g) (a := a) (k := i) h
                by_cases hil : i < (eTo g a).length
                · have hx := hok2 hil
                  have ch2 := sHas_fn (topR g r) (g.2.1.getD ((eTo g a).getD i 0).toNat default).1 (by omega)
                  (repeat' first | (refine zK (fun hs => ?_) (fun hs => ?_) <;> ((try simp only [Ct.len] at hs); revert hs; intro _; conv => whnf)) | (refine zI (fun _ => ?_) (fun _ => ?_)<;> conv => whnf)|((first|refine zA ?_|refine zB ?_|refine zC ?_|refine zD ?_|refine zE ?_|refine zF ?_|refine zG ?_|fail); conv => whnf)|(refine zJ (fun _ => ?_) ?_<;> conv => whnf)|((first | refine condN Tryz.underlying4 (Nx.mk ?_) | refine zH ?_ | refine Nx.mk ?_); conv => whnf))
                  (all_goals try first | contradiction | (exfalso; omega))
                  (refine VC_draw (sf := []) tysOk (by kernel_rfl) (by kernel_rfl) (Nx.mk ?_); conv => whnf)
                  (repeat' first | ((with_reducible show ∃ _ : Bool, _); first | (refine ⟨_, [], _, [], _, _, ch2, rfl, trivial, zW, Nx.mk ?_⟩; conv => whnf))  | (refine zK (fun hs => ?_) (fun hs => ?_) <;> ((try simp only [Ct.len] at hs); revert hs; intro _; conv => whnf)) | (refine zI (fun _ => ?_) (fun _ => ?_)<;> conv => whnf)|((first|refine zA ?_|refine zB ?_|refine zC ?_|refine zD ?_|refine zE ?_|refine zF ?_|refine zG ?_|fail); conv => whnf)|(refine zJ (fun _ => ?_) ?_<;> conv => whnf)|((first | refine condN Tryz.underlying4 (Nx.mk ?_) | refine zH ?_ | refine Nx.mk ?_); conv => whnf))
                  · rename_i hin2
                    refine ⟨(i + 1, rd), ⟨by simp only; omega, ?_⟩, by simp only; omega, ?_⟩
                    · simp only
                      rw [hiff]
                      refine ⟨fun h2 k hk => ?_, fun h2 k hk => h2 k (by omega)⟩
                      by_cases e : k = i
                      · rw [e]; exact hasI_mem.1 hin2
                      · exact h2 k (by omega)
                    · ((try conv => whnf); refine ⟨rfl, by rfl, ?_, ?_⟩ <;> ((repeat' ((try conv => whnf); (first|exact zU|refine And.intro ?_ ?_|exact fun _ _ _ _ => Eq.refl _|refine cellJ (fun _ _ => ?_)|(refine cellB ?_; (conv => whnf); refine And.intro ?_ ?_)|exact zV|fail))) <;> (try conv => whnf)))
                  · rename_i hin2
                    refine ⟨(i + 1, false), ⟨by simp only; omega, ?_⟩, by simp only; omega, ?_⟩
                    · simp only
                      exact ⟨(fun h2 => by cases h2), fun h2 => absurd (h2 i (by omega)) (hasI_not hin2)⟩
                    · ((try conv => whnf); refine ⟨rfl, by rfl, ?_, ?_⟩ <;> ((repeat' ((try conv => whnf); (first|exact zU|refine And.intro ?_ ?_|exact fun _ _ _ _ => Eq.refl _|refine cellJ (fun _ _ => ?_)|(refine cellB ?_; (conv => whnf); refine And.intro ?_ ?_)|exact zV|fail))) <;> (try conv => whnf)))
                · have ei : i = (eTo g a).length := by omega
                  subst ei
                  (repeat' first | (refine zK (fun hs => ?_) (fun hs => ?_) <;> ((try simp only [Ct.len] at hs); revert hs; intro _; conv => whnf)) | (refine zI (fun _ => ?_) (fun _ => ?_)<;> conv => whnf)|((first|refine zA ?_|refine zB ?_|refine zC ?_|refine zD ?_|refine zE ?_|refine zF ?_|refine zG ?_|fail); conv => whnf)|(refine zJ (fun _ => ?_) ?_<;> conv => whnf)|((first | refine condN Tryz.underlying4 (Nx.mk ?_) | refine zH ?_ | refine Nx.mk ?_); conv => whnf))
                  (all_goals try first | contradiction | (exfalso; omega))
                  · rename_i hrd
                    have hR : Rdy g (topR g r) a := rdy_to.2 ⟨hasI_not hnin, hiff.1 hrd⟩
                    have e9 := topR_step (by omega) hR hall
                    refine ⟨r + 1, ⟨by omega, by rw [e9]; simp; omega⟩, by omega, ?_⟩
                    ((try conv => whnf); refine ⟨rfl, by rfl, ?_, ?_⟩ <;> ((repeat' ((try conv => whnf); (first|exact zU|refine And.intro ?_ ?_|exact fun _ _ _ _ => Eq.refl _|refine cellJ (fun _ _ => ?_)|(refine cellB ?_; (conv => whnf); refine And.intro ?_ ?_)|exact zV|fail))) <;> (try conv => whnf)))
                    exact e9.symm
                  · rename_i hrd
                    refine ⟨a + 1, ⟨by omega, fun b hb => ?_⟩, by omega, ?_⟩
                    · by_cases e : b = a
                      · rw [e]
                        intro h2
                        have := hiff.2 (rdy_to.1 h2).2
                        rw [hrd] at this; cases this
                      · exact hall b (by omega)
                    · ((try conv => whnf); refine ⟨rfl, by rfl, ?_, ?_⟩ <;> ((repeat' ((try conv => whnf); (first|exact zU|refine And.intro ?_ ?_|exact fun _ _ _ _ => Eq.refl _|refine cellJ (fun _ _ => ?_)|(refine cellB ?_; (conv => whnf); refine And.intro ?_ ?_)|exact zV|fail))) <;> (try conv => whnf)))
          · exfalso
            exact hall a0 (by omega) hrd0
      · have er : r = g.1.toNat := by omega
        subst er
        (repeat' first | (refine zK (fun hs => ?_) (fun hs => ?_) <;> ((try simp only [Ct.len] at hs); revert hs; intro _; conv => whnf)) | (refine zI (fun _ => ?_) (fun _ => ?_)<;> conv => whnf)|((first|refine zA ?_|refine zB ?_|refine zC ?_|refine zD ?_|refine zE ?_|refine zF ?_|refine zG ?_|fail); conv => whnf)|(refine zJ (fun _ => ?_) ?_<;> conv => whnf)|((first | refine condN Tryz.underlying4 (Nx.mk ?_) | refine zH ?_ | refine Nx.mk ?_); conv => whnf))
        (all_goals try first | contradiction | (exfalso; omega))
        refine ⟨[(16, nm 9)], rfl, ?_, ?_, ?_, fun _ => ?_⟩
        · ((try conv => whnf); refine ⟨rfl, by rfl, ?_, ?_⟩ <;> ((repeat' ((try conv => whnf); (first|exact zU|refine And.intro ?_ ?_|exact fun _ _ _ _ => Eq.refl _|refine cellJ (fun _ _ => ?_)|(refine cellB ?_; (conv => whnf); refine And.intro ?_ ?_)|exact zV|fail))) <;> (try conv => whnf)))
        all_goals ((repeat' ((try conv => whnf); (first|exact zU|refine And.intro ?_ ?_|exact fun _ _ _ _ => Eq.refl _|refine cellJ (fun _ _ => ?_)|(refine cellB ?_; (conv => whnf); refine And.intro ?_ ?_)|exact zV|fail))) <;> (try conv => whnf))
theorem any_at {φ : Edg → Bool} {xs : List Edg} {i : Nat} (hi : i < xs.length) (h : φ (xs.getD i default) = true) : xs.any φ = true := by
  rw [List.any_eq_true]
  exact ⟨xs.getD i default, by rw [List.getD_eq_getElem?_getD, List.getElem?_eq_getElem hi]; exact List.getElem_mem hi, h⟩
theorem any_no {φ : Edg → Bool} {xs : List Edg} (h : ∀ i, i < xs.length → φ (xs.getD i default) = false) : xs.any φ = false := by
  rw [List.any_eq_false]
  intro x hx
  obtain ⟨i, hi, rfl⟩ := List.getElem_of_mem hx
  have := h i hi
  rw [List.getD_eq_getElem?_getD, List.getElem?_eq_getElem hi] at this
  simpa using this
def wtB (out : List Int) (a : Int) (e : Edg) : Bool := decide (e.2.1 = a) && !hasI out e.1
theorem rdy_any {g : Gr} {out : List Int} {a : Int} : Rdy g out a ↔ a ∉ out ∧ g.2.1.any (wtB out a) = false := by
  unfold Rdy
  refine and_congr_right (fun _ => ⟨fun h => any_no (fun i hi => ?_), fun h k hk he => ?_⟩)
  · unfold wtB
    by_cases e : (g.2.1.getD i default).2.1 = a
    · have := hasI_mem.2 (h i hi e)
      have this' : hasI out (g.2.1.getD i default).1 = true := this
      rw [this']; simp
    · rw [decide_eq_false e]; rfl
  · refine Classical.byContradiction (fun hn => ?_)
    have h1 : wtB out a (g.2.1.getD k default) = true := by
      unfold wtB
      have he' : (g.2.1.getD k default).2.1 = a := he
      have : hasI out (g.2.1.getD k default).1 = false := Bool.eq_false_iff.2 (fun h2 => hn (hasI_mem.1 h2))
      rw [decide_eq_true he', this]; rfl
    rw [any_at hk h1] at h; cases h
theorem to1_fn (out : List Int) (a : Int) (e : Edg) (h : out.length ≤ 1048576) : Fn Tryz.prog 123 true (.cons (.agg (EdgA e)) (.cons (.rp false 1 1 (fun _ _ => .I a) 0 0) (.cons (.rp false 1 1 (fun _ _ => .ri false .i64 out) 0 0) .nil))) [] (.b (wtB out a e)) [] := by
  (refine Fn_of tysOk Tryz.func123 rfl rfl (by simp [AV.len, Tryz.f123]) ⟨?_⟩; conv => whnf)
  (repeat' first | ((with_reducible show ∃ _ : Bool, _); first | (refine ⟨_, [], _, [], _, _, contains_fn out e.1 (by omega), rfl, trivial, zW, Nx.mk ?_⟩; conv => whnf))  | (refine zK (fun hs => ?_) (fun hs => ?_) <;> ((try simp only [Ct.len] at hs); revert hs; intro _; conv => whnf)) | (refine zI (fun _ => ?_) (fun _ => ?_)<;> conv => whnf)|((first|refine zA ?_|refine zB ?_|refine zC ?_|refine zD ?_|refine zE ?_|refine zF ?_|refine zG ?_|fail); conv => whnf)|(refine zJ (fun _ => ?_) ?_<;> conv => whnf)|((first | refine condN Tryz.underlying4 (Nx.mk ?_) | refine zH ?_ | refine Nx.mk ?_); conv => whnf))
  all_goals
    (refine ⟨[], rfl, ⟨rfl, rfl, trivial, trivial⟩, ?_, ⟨?_, trivial⟩, fun _ => ⟨?_, trivial⟩⟩ <;> ((repeat' ((try conv => whnf); (first|exact zU|refine And.intro ?_ ?_|exact fun _ _ _ _ => Eq.refl _|refine cellJ (fun _ _ => ?_)|(refine cellB ?_; (conv => whnf); refine And.intro ?_ ?_)|exact zV|fail))) <;> (try conv => whnf)))
    unfold wtB
    simp_all
theorem indexFuncT_fn (out : List Int) (a : Int) (xs : List Edg) (h : xs.length ≤ 4194304) (ho : out.length ≤ 1048576) : Fn Tryz.prog 167 true (.cons (.rs false xs.length 3 (cellsA EdgA xs)) (.cons (.fn 123 (.cons (.rp false 1 1 (fun _ _ => .I a) 0 0) (.cons (.rp false 1 1 (fun _ _ => .ri false .i64 out) 0 0) .nil))) .nil)) [] (.I (idxOf (wtB out a) xs)) [] := by
  (refine Fn_of tysOk Tryz.func167 rfl rfl (by simp [AV.len, Tryz.f167]) ⟨?_⟩; conv => whnf)
  (repeat' first | (refine zK (fun hs => ?_) (fun hs => ?_) <;> ((try simp only [Ct.len] at hs); revert hs; intro _; conv => whnf)) | (refine zI (fun _ => ?_) (fun _ => ?_)<;> conv => whnf)|((first|refine zA ?_|refine zB ?_|refine zC ?_|refine zD ?_|refine zE ?_|refine zF ?_|refine zG ?_|fail); conv => whnf)|(refine zJ (fun _ => ?_) ?_<;> conv => whnf)|((first | refine condN Tryz.underlying4 (Nx.mk ?_) | refine zH ?_ | refine Nx.mk ?_); conv => whnf))
  refine loopI tysOk [] (fun i : Nat => [(8, .I i)]) (fun i => []) (fun i => i ≤ xs.length ∧ ∀ k, k < i → wtB out a (xs.getD k default) = false) (fun i => xs.length - i) 0 ⟨Nat.zero_le _, fun k hk => absurd hk (by omega)⟩ ?_ ?_
  · ((try conv => whnf); refine ⟨rfl, by rfl, ?_, ?_⟩ <;> ((repeat' ((try conv => whnf); (first|exact zU|refine And.intro ?_ ?_|exact fun _ _ _ _ => Eq.refl _|refine cellJ (fun _ _ => ?_)|(refine cellB ?_; (conv => whnf); refine And.intro ?_ ?_)|exact zV|fail))) <;> (try conv => whnf)))
  · rintro i ⟨hi, hall⟩
    (repeat' first | (refine zK (fun hs => ?_) (fun hs => ?_) <;> ((try simp only [Ct.len] at hs); revert hs; intro _; conv => whnf)) | (refine zI (fun _ => ?_) (fun _ => ?_)<;> conv => whnf)|((first|refine zA ?_|refine zB ?_|refine zC ?_|refine zD ?_|refine zE ?_|refine zF ?_|refine zG ?_|fail); conv => whnf)|(refine zJ (fun _ => ?_) ?_<;> conv => whnf)|((first | refine condN Tryz.underlying4 (Nx.mk ?_) | refine zH ?_ | refine Nx.mk ?_); conv => whnf))
    · (repeat' first | ((with_reducible show ∃ _ : Bool, _); first | (refine ⟨_, [], _, [], _, _, to1_fn out a (xs.getD i default) ho, rfl, trivial, zW, Nx.mk ?_⟩; conv => whnf))  | (refine zK (fun hs => ?_) (fun hs => ?_) <;> ((try simp only [Ct.len] at hs); revert hs; intro _; conv => whnf)) | (refine zI (fun _ => ?_) (fun _ => ?_)<;> conv => whnf)|((first|refine zA ?_|refine zB ?_|refine zC ?_|refine zD ?_|refine zE ?_|refine zF ?_|refine zG ?_|fail); conv => whnf)|(refine zJ (fun _ => ?_) ?_<;> conv => whnf)|((first | refine condN Tryz.underlying4 (Nx.mk ?_) | refine zH ?_ | refine Nx.mk ?_); conv => whnf))
      · (refine ⟨[], rfl, ⟨rfl, rfl, trivial, trivial⟩, ?_, ⟨?_, trivial⟩, fun _ => ⟨?_, trivial⟩⟩ <;> ((repeat' ((try conv => whnf); (first|exact zU|refine And.intro ?_ ?_|exact fun _ _ _ _ => Eq.refl _|refine cellJ (fun _ _ => ?_)|(refine cellB ?_; (conv => whnf); refine And.intro ?_ ?_)|exact zV|fail))) <;> (try conv => whnf)))
        exact (idxOf_at (φ := wtB out a) (i := i) (by omega) (by assumption) hall).symm
      · rename_i h1
        refine ⟨i + 1, ⟨by omega, fun k hk => ?_⟩, by omega, ?_⟩
        · by_cases e : k = i
          · rw [e]; exact h1
          · exact hall k (by omega)
        · ((try conv => whnf); refine ⟨rfl, by rfl, ?_, ?_⟩ <;> ((repeat' ((try conv => whnf); (first|exact zU|refine And.intro ?_ ?_|exact fun _ _ _ _ => Eq.refl _|refine cellJ (fun _ _ => ?_)|(refine cellB ?_; (conv => whnf); refine And.intro ?_ ?_)|exact zV|fail))) <;> (try conv => whnf)))
    · (refine ⟨[], rfl, ⟨rfl, rfl, trivial, trivial⟩, ?_, ⟨?_, trivial⟩, fun _ => ⟨?_, trivial⟩⟩ <;> ((repeat' ((try conv => whnf); (first|exact zU|refine And.intro ?_ ?_|exact fun _ _ _ _ => Eq.refl _|refine cellJ (fun _ _ => ?_)|(refine cellB ?_; (conv => whnf); refine And.intro ?_ ?_)|exact zV|fail))) <;> (try conv => whnf)))
      exact (idxOf_none (fun k hk => hall k (by omega))).symm
theorem containsFuncT_fn (out : List Int) (a : Int) (xs : List Edg) (h : xs.length ≤ 4194304) (ho : out.length ≤ 1048576) : Fn Tryz.prog 122 true (.cons (.rs false xs.length 3 (cellsA EdgA xs)) (.cons (.fn 123 (.cons (.rp false 1 1 (fun _ _ => .I a) 0 0) (.cons (.rp false 1 1 (fun _ _ => .ri false .i64 out) 0 0) .nil))) .nil)) [] (.b (xs.any (wtB out a))) [] := by
  (refine Fn_of tysOk Tryz.func122 rfl rfl (by simp [AV.len, Tryz.f122]) ⟨?_⟩; conv => whnf)
  (repeat' first | ((with_reducible show ∃ _ : Bool, _); first | (refine ⟨_, [], _, [], _, _, indexFuncT_fn out a xs h ho, rfl, trivial, zW, Nx.mk ?_⟩; conv => whnf))  | (refine zK (fun hs => ?_) (fun hs => ?_) <;> ((try simp only [Ct.len] at hs); revert hs; intro _; conv => whnf)) | (refine zI (fun _ => ?_) (fun _ => ?_)<;> conv => whnf)|((first|refine zA ?_|refine zB ?_|refine zC ?_|refine zD ?_|refine zE ?_|refine zF ?_|refine zG ?_|fail); conv => whnf)|(refine zJ (fun _ => ?_) ?_<;> conv => whnf)|((first | refine condN Tryz.underlying4 (Nx.mk ?_) | refine zH ?_ | refine Nx.mk ?_); conv => whnf))
  all_goals ((refine ⟨[], rfl, ⟨rfl, rfl, trivial, trivial⟩, ?_, ⟨?_, trivial⟩, fun _ => ⟨?_, trivial⟩⟩ <;> ((repeat' ((try conv => whnf); (first|exact zU|refine And.intro ?_ ?_|exact fun _ _ _ _ => Eq.refl _|refine cellJ (fun _ _ => ?_)|(refine cellB ?_; (conv => whnf); refine And.intro ?_ ?_)|exact zV|fail))) <;> (try conv => whnf))))
  · exact (idxOf_any.1 (by assumption)).symm
  · rename_i h1
    exact (Bool.eq_false_iff.2 (fun h2 => h1 (idxOf_any.2 h2))).symm
def Nx1 (g : Gr) (out : List Int) (m : Nat) (x : Int) : Prop := (x = -1 ∧ ∀ b : Nat, m ≤ b → (b : Int) < g.1 → ¬ Rdy g out (b : Int)) ∨ ∃ a : Nat, x = a ∧ m ≤ a ∧ (a : Int) < g.1 ∧ Rdy g out (a : Int) ∧ ∀ b : Nat, m ≤ b → b < a → ¬ Rdy g out (b : Int)
theorem Nx1.take {g : Gr} {out : List Int} {m : Nat} (hm : (m : Int) < g.1) (hr : Rdy g out (m : Int)) : Nx1 g out m (m : Int) := .inr ⟨m, rfl, Nat.le_refl _, hm, hr, fun b h1 h2 => by omega⟩
theorem Nx1.skip {g : Gr} {out : List Int} {m : Nat} {x : Int} (h : Nx1 g out (m + 1) x) (hr : ¬ Rdy g out (m : Int)) : Nx1 g out m x := by
  rcases h with ⟨h1, h2⟩ | ⟨a, h1, h2, h3, h4, h5⟩
  · refine .inl ⟨h1, fun b hb hg => ?_⟩
    by_cases e : b = m
    · rw [e]; exact hr
    · exact h2 b (by omega) hg
  · refine .inr ⟨a, h1, by omega, h3, h4, fun b hb hg => ?_⟩
    by_cases e : b = m
    · rw [e]; exact hr
    · exact h5 b (by omega) hg
theorem topo_stuck {g : Gr} {r : Nat} (hv : ValidG g) (hr : r < g.1.toNat) (hl : (topR g r).length = r) (h : ∀ b : Nat, (b : Int) < g.1 → ¬ Rdy g (topR g r) (b : Int)) : acyB g = false := by
  refine Bool.eq_false_iff.2 (fun h2 => ?_)
  obtain ⟨a, h3, h4⟩ := topR_grow hv (acyB_iff.1 h2).2 hl hr
  exact h a h3 h4
theorem topo_full {g : Gr} (hv : ValidG g) (hl : (topR g g.1.toNat).length = g.1.toNat) : acyB g = true := acyB_iff.2 ⟨hv, acyc_of hv topR_inv hl⟩
theorem iTopo_fn (g : Gr) (h : g.2.1.length ≤ 1048576) : Fn Tryz.prog 74 true (.cons (GrA g) .nil) [] (.tup (.cons (.os (rt 16)) (.cons (.b (acyB g)) .nil))) [(16, .row 3 (.ints .i64 (topoL g)))] := by
  (refine Fn_of tysOk Tryz.func74 rfl rfl (by simp [AV.len, Tryz.f74]) ⟨?_⟩; conv => whnf)
  (repeat' first | ((with_reducible show ∃ _ : Bool, _); first | (refine ⟨_, [], _, [], _, _, iValid_fn g h, rfl, trivial, zW, Nx.mk ?_⟩; conv => whnf))  | (refine zK (fun hs => ?_) (fun hs => ?_) <;> ((try simp only [Ct.len] at hs); revert hs; intro _; conv => whnf)) | (refine zI (fun _ => ?_) (fun _ => ?_)<;> conv => whnf)|((first|refine zA ?_|refine zB ?_|refine zC ?_|refine zD ?_|refine zE ?_|refine zF ?_|refine zG ?_|fail); conv => whnf)|(refine zJ (fun _ => ?_) ?_<;> conv => whnf)|((first | refine condN Tryz.underlying4 (Nx.mk ?_) | refine zH ?_ | refine Nx.mk ?_); conv => whnf))
  · rename_i hv
    have hV := validG_iff.1 hv
    have hlen := hV.len
    have hg1 := hV.lo
    have hg2 := hV.hi
    refine loopI tysOk [nm 42] (fun r : Nat => []) (fun r => [(nm 4, some (.box (.cons (.os (rt (nm 42))) .nil))), (nm 42, some (.row 3 (.ints .i64 (topR g r))))]) (fun r => r ≤ g.1.toNat ∧ (topR g r).length = r) (fun r => g.1.toNat - r) 0 ⟨Nat.zero_le _, by rw [topR_zero]; rfl⟩ ?_ ?_
    · ((try conv => whnf); refine ⟨rfl, by rfl, ?_, ?_⟩ <;> ((repeat' ((try conv => whnf); (first|exact zU|refine And.intro ?_ ?_|exact fun _ _ _ _ => Eq.refl _|refine cellJ (fun _ _ => ?_)|(refine cellB ?_; (conv => whnf); refine And.intro ?_ ?_)|exact zV|fail))) <;> (try conv => whnf)))
      rw [topR_zero]; rfl
    · rintro r ⟨hr, hrl⟩
      by_cases hrn : r < g.1.toNat
      · (repeat' first | (refine zK (fun hs => ?_) (fun hs => ?_) <;> ((try simp only [Ct.len] at hs); revert hs; intro _; conv => whnf)) | (refine zI (fun _ => ?_) (fun _ => ?_)<;> conv => whnf)|((first|refine zA ?_|refine zB ?_|refine zC ?_|refine zD ?_|refine zE ?_|refine zF ?_|refine zG ?_|fail); conv => whnf)|(refine zJ (fun _ => ?_) ?_<;> conv => whnf)|((first | refine condN Tryz.underlying4 (Nx.mk ?_) | refine zH ?_ | refine Nx.mk ?_); conv => whnf))
        (all_goals try first | contradiction | (exfalso; omega))
        refine VC_swaps [(nm 6, nm 36)] rfl ?_
        conv => whnf
        refine loopW tysOk [] (fun i : Nat × Int => [(6, .op (rt (nm 36)) 0), (5, .I i.2)]) (fun i => [(nm 36, some (.box (.cons (.I ((i.1 : Int) - 1)) .nil)))]) (fun i => i.1 ≤ g.1.toNat ∧ Nx1 g (topR g r) i.1 i.2) (fun i => i.1) (g.1.toNat, -1) ⟨Nat.le_refl _, .inl ⟨rfl, fun b h1 h2 => by omega⟩⟩ ?_ ?_
        · ((try conv => whnf); refine ⟨rfl, by rfl, ?_, ?_⟩ <;> ((repeat' ((try conv => whnf); (first|exact zU|refine And.intro ?_ ?_|exact fun _ _ _ _ => Eq.refl _|refine cellJ (fun _ _ => ?_)|(refine cellB ?_; (conv => whnf); refine And.intro ?_ ?_)|exact zV|fail))) <;> (try conv => whnf)))
          simp only; omega
        · rintro ⟨m, x⟩ ⟨hm, hx⟩
          simp only at hm hx
          dsimp only
          have ca := containsFuncT_fn (topR g r) ((m : Int) - 1) g.2.1 (by omega) (by omega)
          have ch := contains_fn (topR g r) ((m : Int) - 1) (by omega)
          cases m with
          | zero =>
            (repeat' first | ((with_reducible show ∃ _ : Bool, _); first | (refine ⟨_, [], _, [], _, _, ca, rfl, trivial, zW, Nx.mk ?_⟩; conv => whnf)|(refine ⟨_, [], _, [], _, _, ch, rfl, trivial, zW, Nx.mk ?_⟩; conv => whnf))  | (refine zK (fun hs => ?_) (fun hs => ?_) <;> ((try simp only [Ct.len] at hs); revert hs; intro _; conv => whnf)) | (refine zI (fun _ => ?_) (fun _ => ?_)<;> conv => whnf)|((first|refine zA ?_|refine zB ?_|refine zC ?_|refine zD ?_|refine zE ?_|refine zF ?_|refine zG ?_|fail); conv => whnf)|(refine zJ (fun _ => ?_) ?_<;> conv => whnf)|((first | refine condN Tryz.underlying4 (Nx.mk ?_) | refine zH ?_ | refine Nx.mk ?_); conv => whnf))
            (all_goals try first | contradiction | (exfalso; omega))
            · rename_i hneg
              have hno : ∀ b : Nat, (b : Int) < g.1 → ¬ Rdy g (topR g r) (b : Int) := by
                rcases hx with ⟨_, h2⟩ | ⟨a, h1, _⟩
                · exact fun b hb => h2 b (Nat.zero_le _) hb
                · omega
              have hac := topo_stuck hV hrn hrl hno
              rw [hac, topoL_no hac]
              refine ⟨[], rfl, ?_, ?_, ?_, fun _ => ?_⟩
              · ((try conv => whnf); refine ⟨rfl, by rfl, ?_, ?_⟩ <;> ((repeat' ((try conv => whnf); (first|exact zU|refine And.intro ?_ ?_|exact fun _ _ _ _ => Eq.refl _|refine cellJ (fun _ _ => ?_)|(refine cellB ?_; (conv => whnf); refine And.intro ?_ ?_)|exact zV|fail))) <;> (try conv => whnf)))
              all_goals ((repeat' ((try conv => whnf); (first|exact zU|refine And.intro ?_ ?_|exact fun _ _ _ _ => Eq.refl _|refine cellJ (fun _ _ => ?_)|(refine cellB ?_; (conv => whnf); refine And.intro ?_ ?_)|exact zV|fail))) <;> (try conv => whnf))
            · rename_i hpos
              rcases hx with ⟨h1, _⟩ | ⟨a, h1, _, h3, h4, h5⟩
              · omega
              · have e9 := topR_step h3 h4 (fun b hb => h5 b (Nat.zero_le _) hb)
                refine ⟨r + 1, ⟨by omega, by rw [e9]; simp; omega⟩, by omega, ?_⟩
                ((try conv => whnf); refine ⟨rfl, by rfl, ?_, ?_⟩ <;> ((repeat' ((try conv => whnf); (first|exact zU|refine And.intro ?_ ?_|exact fun _ _ _ _ => Eq.refl _|refine cellJ (fun _ _ => ?_)|(refine cellB ?_; (conv => whnf); refine And.intro ?_ ?_)|exact zV|fail))) <;> (try conv => whnf)))
                rw [e9, h1]
          | succ k =>
            have ek : ((k + 1 : Nat) : Int) - 1 = k := by omega
            have hk : (k : Int) < g.1 := by omega
            (repeat' first | ((with_reducible show ∃ _ : Bool, _); first | (refine ⟨_, [], _, [], _, _, ca, rfl, trivial, zW, Nx.mk ?_⟩; conv => whnf)|(refine ⟨_, [], _, [], _, _, ch, rfl, trivial, zW, Nx.mk ?_⟩; conv => whnf))  | (refine zK (fun hs => ?_) (fun hs => ?_) <;> ((try simp only [Ct.len] at hs); revert hs; intro _; conv => whnf)) | (refine zI (fun _ => ?_) (fun _ => ?_)<;> conv => whnf)|((first|refine zA ?_|refine zB ?_|refine zC ?_|refine zD ?_|refine zE ?_|refine zF ?_|refine zG ?_|fail); conv => whnf)|(refine zJ (fun _ => ?_) ?_<;> conv => whnf)|((first | refine condN Tryz.underlying4 (Nx.mk ?_) | refine zH ?_ | refine Nx.mk ?_); conv => whnf))
            (all_goals try first | contradiction | (exfalso; omega))
            · rename_i hw
              rw [ek] at hw
              refine ⟨(k, x), ⟨by simp only; omega, hx.skip (fun h2 => by have := (rdy_any.1 h2).2; rw [hw] at this; cases this)⟩, by simp only; omega, [(nm 6, nm 36)], rfl, ?_⟩
              ((try conv => whnf); refine ⟨rfl, by rfl, ?_, ?_⟩ <;> ((repeat' ((try conv => whnf); (first|exact zU|refine And.intro ?_ ?_|exact fun _ _ _ _ => Eq.refl _|refine cellJ (fun _ _ => ?_)|(refine cellB ?_; (conv => whnf); refine And.intro ?_ ?_)|exact zV|fail))) <;> (try conv => whnf)))
              simp only; omega
            · rename_i hin
              rw [ek] at hin
              refine ⟨(k, x), ⟨by simp only; omega, hx.skip (fun h2 => h2.1 (hasI_mem.1 hin))⟩, by simp only; omega, [(nm 6, nm 36)], rfl, ?_⟩
              ((try conv => whnf); refine ⟨rfl, by rfl, ?_, ?_⟩ <;> ((repeat' ((try conv => whnf); (first|exact zU|refine And.intro ?_ ?_|exact fun _ _ _ _ => Eq.refl _|refine cellJ (fun _ _ => ?_)|(refine cellB ?_; (conv => whnf); refine And.intro ?_ ?_)|exact zV|fail))) <;> (try conv => whnf)))
              simp only; omega
            · rename_i hw hin
              rw [ek] at hw hin
              refine ⟨(k, (k : Int)), ⟨by simp only; omega, Nx1.take hk (rdy_any.2 ⟨hasI_not hin, hw⟩)⟩, by simp only; omega, [(nm 6, nm 36)], rfl, ?_⟩
              ((try conv => whnf); refine ⟨rfl, by rfl, ?_, ?_⟩ <;> ((repeat' ((try conv => whnf); (first|exact zU|refine And.intro ?_ ?_|exact fun _ _ _ _ => Eq.refl _|refine cellJ (fun _ _ => ?_)|(refine cellB ?_; (conv => whnf); refine And.intro ?_ ?_)|exact zV|fail))) <;> (try conv => whnf)))
              · exact ek
              · simp only; omega
      · have er : r = g.1.toNat := by omega
        subst er
        have hac := topo_full hV hrl
        rw [hac, topoL_yes hac]
        (repeat' first | (refine zK (fun hs => ?_) (fun hs => ?_) <;> ((try simp only [Ct.len] at hs); revert hs; intro _; conv => whnf)) | (refine zI (fun _ => ?_) (fun _ => ?_)<;> conv => whnf)|((first|refine zA ?_|refine zB ?_|refine zC ?_|refine zD ?_|refine zE ?_|refine zF ?_|refine zG ?_|fail); conv => whnf)|(refine zJ (fun _ => ?_) ?_<;> conv => whnf)|((first | refine condN Tryz.underlying4 (Nx.mk ?_) | refine zH ?_ | refine Nx.mk ?_); conv => whnf))
        (all_goals try first | contradiction | (exfalso; omega))
        refine ⟨[(16, nm 42)], rfl, ?_, ?_, ?_, fun _ => ?_⟩
        · ((try conv => whnf); refine ⟨rfl, by rfl, ?_, ?_⟩ <;> ((repeat' ((try conv => whnf); (first|exact zU|refine And.intro ?_ ?_|exact fun _ _ _ _ => Eq.refl _|refine cellJ (fun _ _ => ?_)|(refine cellB ?_; (conv => whnf); refine And.intro ?_ ?_)|exact zV|fail))) <;> (try conv => whnf)))
        all_goals ((repeat' ((try conv => whnf); (first|exact zU|refine And.intro ?_ ?_|exact fun _ _ _ _ => Eq.refl _|refine cellJ (fun _ _ => ?_)|(refine cellB ?_; (conv => whnf); refine And.intro ?_ ?_)|exact zV|fail))) <;> (try conv => whnf))
  · rename_i hv
    have hac : acyB g = false := Bool.eq_false_iff.2 (fun h2 => by rw [validG_iff.2 (acyB_iff.1 h2).1] at hv; cases hv)
    rw [hac, topoL_no hac]
    refine ⟨[], rfl, ?_, ?_, ?_, fun _ => ?_⟩
    · ((try conv => whnf); refine ⟨rfl, by rfl, ?_, ?_⟩ <;> ((repeat' ((try conv => whnf); (first|exact zU|refine And.intro ?_ ?_|exact fun _ _ _ _ => Eq.refl _|refine cellJ (fun _ _ => ?_)|(refine cellB ?_; (conv => whnf); refine And.intro ?_ ?_)|exact zV|fail))) <;> (try conv => whnf)))
    all_goals ((repeat' ((try conv => whnf); (first|exact zU|refine And.intro ?_ ?_|exact fun _ _ _ _ => Eq.refl _|refine cellJ (fun _ _ => ?_)|(refine cellB ?_; (conv => whnf); refine And.intro ?_ ?_)|exact zV|fail))) <;> (try conv => whnf))
end Go.Proofs.YtbepgedckfhifaaGreat
