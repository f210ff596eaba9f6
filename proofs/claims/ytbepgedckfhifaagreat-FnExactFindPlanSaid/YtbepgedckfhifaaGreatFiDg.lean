/-
  Regions that draw their order: two operations that are not ordered are told for each of their two orders, and the order that serves need not be the text's.
-/
import Derived.Test.YtbepgedckfhifaaGreatFiVC
import Derived.Orders
namespace Go.Proofs.YtbepgedckfhifaaGreat
open Go.RowKit
set_option linter.unusedVariables false
def eagO : Op → Bool
  | .extract (.tmp _) _ => true
  | .move _ => true
  | _ => false
def eagB2 (ops : Array Oper) (B : List Nat) (j : Nat) : Bool :=
  match ops[j]? with
  | some o =>
    (match o.dst, o.guard with
     | some _, none => eagO o.op && ops.toList.zipIdx.all fun (o', k) => Nat.beq j k || (B.getD j 0).testBit k || o'.after.toList.any (fun e => Region.binds .any e && Nat.beq e.on j) || o.apart ops o'
     | _, _ => false)
  | none => false
def exts2 (ops : Array Oper) : List Nat := let B := (Region.before ops).toList; (List.range ops.size).filter (eagB2 ops B)
def drawB3 (sf : List Nat) (ops : Array Oper) : Bool := let B := (Region.before ops).toList; certB ops.toList B && apartB2 sf ops ops.toList B (exts2 ops) && (exts2 ops).all (eagB2 ops B) && Region.noSelect ops
section
variable {P : Program} {τ : List (Nat × TyI)} {sf : List Nat} {ops : Array Oper} {st : Nat → St} {A : Nat → AV} {bs : Nat → List (Nat × Option Blk)}
theorem eag_yields {o : Oper} {a : Act} {w : World} {d : Nat} {K : Act → World → Prop} {Q : Exit → Act → World → Prop} (hd : o.dst = some d) (ho : eagO o.op = true) (hg : o.guard = none) (hQ : ∀ c a w, ¬ Q (.panic c) a w)
    (h : o.wp P a w K Q) : ∃ v, Go.Yields P ops o v a ∧ K (a.put o.dst v) w := by
  cases hop : o.op with
  | extract x n =>
    cases x with
    | tmp t => exact extract_yields hd hop hg hQ h
    | _ => rw [hop] at ho; cases ho
  | move x =>
    have hw : Region.wanted o (yielded ops a.tmps) = true := by simp [Region.wanted, hg]
    refine ⟨a.eval x, .inl ⟨hw, fun w' => by simp [execOp, hop]⟩, ?_⟩
    unfold Oper.wp at h
    simpa [execOp, hop, Oper.upon] using h
  | _ => rw [hop] at ho; cases ho
theorem came_any3 (hτ : TyOk P τ) (hT : ∀ i, i < ops.size → Tstep P τ sf ops i (st i) (st (i + 1)) (A i) (bs i)) {B : List Nat} (hB : certB ops.toList B = true) {js : List Nat} (hA : apartB2 sf ops ops.toList B js = true) (hJ : js.all (eagB2 ops B) = true) (hN : Region.noSelect ops = true) {E : Ent0} {Q : Exit → Act → World → Prop}
    (hQp : ∀ c a w, ¬ Q (.panic c) a w) (hQ : ∀ a w, Den E (st ops.size) a w → Q .normal a w) : ∀ (fuel : Nat) (listed : Array Bool) (a : Act) (w : World), unl ops listed = fuel → Came sf ops st A bs E listed a w → wpAny P .any ops Q fuel listed a w := by
  have fin : ∀ (listed : Array Bool) (a : Act) (w : World), (∀ k, k < ops.size → Lst listed k) → Came sf ops st A bs E listed a w → Q .normal a w := by
    intro listed a w hall hC
    obtain ⟨m, hm, hlow, hsoft, t, hS, hD⟩ := hC.came
    have hsf : Soft sf ops m ops.size := fun k o h1 h2 h3 => hsoft k h1 (hall k h2) k o h1 (by omega) h3
    have hS' : Spec st A bs ops m (fun k => m ≤ k ∧ k < ops.size) t := hS.congr (fun k => ⟨fun h => ⟨h.1, by
      rw [← hC.closed.size]
      rcases Nat.lt_or_ge k listed.size with h' | h'
      · exact h'
      · have := h.2; unfold Lst at this; simp [Array.getElem?_eq_none h'] at this⟩, fun h => ⟨h.1, hall k h.2⟩⟩)
    exact hQ a w (hS'.same (spec_text hT m ops.size hm (Nat.le_refl _) hsf) hD)
  have none_ready : ∀ (listed : Array Bool), Closed ops listed → Region.ready .any ops listed = [] → ∀ k, k < ops.size → Lst listed k := by
    intro listed hc hr k
    induction k using Nat.strongRecOn with
    | _ k ih =>
      intro hk
      by_cases hl : Lst listed k
      · exact hl
      · exfalso
        have hk' : ops[k]? = some ops[k] := Array.getElem?_eq_getElem hk
        have : k ∈ Region.ready .any ops listed := mem_ready.2 ⟨lst_not (by rw [hc.size]; exact hk) hl, ops[k], hk', fun e he hb => by
          have hlt := (cert_at hB hk').2 e he hb
          exact ih e.on hlt (by omega)⟩
        rw [hr] at this; cases this
  intro fuel
  induction fuel with
  | zero =>
    intro listed a w hu hC
    have hall : ∀ k, k < ops.size → Lst listed k := fun k hk => by
      have := (List.countP_eq_zero.1 hu) k (by simpa using hk)
      simpa [Lst] using this
    refine ⟨?_, fin listed a w hall hC⟩
    rw [List.eq_nil_iff_forall_not_mem]
    intro i hi
    obtain ⟨h1, o, h2, _⟩ := mem_ready.1 hi
    exact (not_lst h1).2 (hall i (Array.getElem?_eq_some_iff.1 h2).1)
  | succ fuel ih =>
    intro listed a w hu hC
    have dec : ∀ i, i < ops.size → ¬ Lst listed i → i < listed.size → unl ops (listed.setIfInBounds i true) = fuel := fun i hin hun his => by
      have := countP_one (l := List.range ops.size) List.nodup_range (p := fun k => !(listed.getD k false)) (q := fun k => !((listed.setIfInBounds i true).getD k false)) (i := i) (by simpa using hin) (by
        unfold Lst at hun; simpa using hun) (by simp [his]) (fun k hk => by
        simp [Array.getElem?_setIfInBounds_ne (Ne.symm hk)])
      unfold unl at hu ⊢
      omega
    by_cases he : ∃ j, js.contains j = true ∧ j ∈ Region.ready .any ops listed
    · obtain ⟨j, hj, hjr⟩ := he
      obtain ⟨h1, o, h2, h3⟩ := mem_ready.1 hjr
      obtain ⟨his, hun⟩ := not_lst h1
      have hin : j < ops.size := (Array.getElem?_eq_some_iff.1 h2).1
      have hej := (List.all_eq_true.1 hJ) j (by simpa using hj)
      unfold eagB2 at hej
      rw [h2] at hej
      simp only at hej
      split at hej
      · rename_i d hd hg
        simp only [Bool.and_eq_true] at hej
        obtain ⟨hop, hej⟩ := hej
        have hns : solidB sf o = false := by
          unfold solidB
          rw [hd]
          cases ho : o.op with
          | call c => rw [ho] at hop; cases hop
          | _ => rfl
        have hstep := came_step2 hτ hT hB hA hC h2 hun h3 (fun h => by rw [hns] at h; cases h) Q
        have hw : Region.wanted o (yielded ops a.tmps) = true := by simp [Region.wanted, hg]
        rw [if_pos hw] at hstep
        obtain ⟨v, hy, hC'⟩ := eag_yields (ops := ops) hd hop hg hQp hstep
        refine wpAny_first h2 (Region.noSelect_spec hN) (fun c a w h => absurd h (hQp c _ w)) fuel listed a w (fun k ok hk hkj hku hno => ?_) hjr hy (ih _ _ w (dec j hin hun his) hC')
        have hm : (ok, k) ∈ ops.toList.zipIdx := by rw [List.mem_zipIdx_iff_getElem?]; simpa using hk
        have := (List.all_eq_true.1 hej) _ hm
        simp only [Bool.or_eq_true] at this
        rcases this with ((h4 | h4) | h4) | h4
        · exact absurd (Nat.eq_of_beq_eq_true h4).symm hkj
        · exact absurd (ahead_listed hB hC.closed j o h2 h3 k h4) (not_lst hku).2
        · obtain ⟨e, he1, he2⟩ := List.any_eq_true.1 h4
          simp only [Bool.and_eq_true] at he2
          exact absurd (Nat.eq_of_beq_eq_true he2.2) (hno e (by simpa using he1) he2.1)
        · exact h4
      · cases hej
    · refine ⟨fun hr => fin listed a w (none_ready listed hC.closed hr) hC, fun i hi => ?_⟩
      obtain ⟨h1, o, h2, h3⟩ := mem_ready.1 hi
      obtain ⟨his, hun⟩ := not_lst h1
      have hin : i < ops.size := (Array.getElem?_eq_some_iff.1 h2).1
      have hstep := came_step2 hτ hT hB hA hC h2 hun h3 (fun _ j oj hj hoj hjp => by
        refine Classical.byContradiction (fun hl => he ⟨j, hj, mem_ready.2 ⟨lst_not (by rw [hC.closed.size]; exact (Array.getElem?_eq_some_iff.1 hoj).1) hl, oj, hoj, hjp⟩⟩)) Q
      unfold wpOp
      rw [h2]
      simp only
      by_cases hw : Region.wanted o (yielded ops a.tmps) = true
      · rw [if_pos hw] at hstep ⊢
        exact .inl (Oper.wp_mono (fun a' w' hc => ih _ a' w' (dec i hin hun his) hc) hstep)
      · rw [if_neg hw] at hstep ⊢
        exact ih _ _ _ (dec i hin hun his) hstep
end
inductive Lin (ops : Array Oper) : Array Bool → List Nat → Prop where
  | nil {listed} : Region.ready .any ops listed = [] → Lin ops listed []
  | cons {listed i L} : i ∈ Region.ready .any ops listed → Lin ops (listed.setIfInBounds i true) L → Lin ops listed (i :: L)
section
variable {P : Program} {ops : Array Oper} {Q : Exit → Act → World → Prop}
theorem lin_any : ∀ (fuel : Nat) (listed : Array Bool) (L : List Nat) (a : Act) (w : World), wpAny P .any ops Q fuel listed a w → Lin ops listed L → wpOps P ops Q L a w
  | 0, listed, L, a, w, h, hl => by
    cases hl with
    | nil _ => exact h.2
    | cons hi _ => rw [h.1] at hi; cases hi
  | fuel + 1, listed, L, a, w, h, hl => by
    cases hl with
    | nil h0 => exact h.1 h0
    | cons hi hL =>
      rw [wpOps_cons]
      exact wpOp_mono (fun a w h => lin_any fuel _ _ a w h hL) (h.2 _ hi)
theorem lin_go : ∀ (fuel t : Nat) (listed : Array Bool), (∀ listed' : Array Bool, unl ops listed' = 0 → Region.ready .any ops listed' = []) → listed.size = ops.size → unl ops listed ≤ fuel → Lin ops listed (Region.linearise.go .any ops fuel t listed [])
  | 0, t, listed, h0, hs, hu => .nil (h0 listed (by omega))
  | fuel + 1, t, listed, h0, hs, hu => by
    simp only [Region.linearise.go]
    change Lin ops listed (match (Region.ready .any ops listed)[t % (Region.ready .any ops listed).length]? with
      | some i => Region.linearise.go .any ops fuel (t / (Region.ready .any ops listed).length) (listed.setIfInBounds i true) [i]
      | none => [].reverse)
    cases hi : (Region.ready .any ops listed)[t % (Region.ready .any ops listed).length]? with
    | none =>
      refine .nil ?_
      cases hr : Region.ready .any ops listed with
      | nil => rfl
      | cons x xs =>
        rw [hr] at hi
        have hlt : t % (x :: xs).length < (x :: xs).length := Nat.mod_lt _ (by simp)
        simp at hi
        simp at hlt
        omega
    | some i =>
      simp only []
      rw [linearise_go_acc, List.reverse_singleton, List.singleton_append]
      have hm := List.mem_of_getElem? hi
      obtain ⟨h1, o, h2, _⟩ := mem_ready.1 hm
      obtain ⟨his, hun⟩ := not_lst h1
      have hin : i < ops.size := (Array.getElem?_eq_some_iff.1 h2).1
      refine .cons hm (lin_go fuel _ _ h0 (by simpa using hs) ?_)
      have := countP_one (l := List.range ops.size) List.nodup_range (p := fun k => !(listed.getD k false)) (q := fun k => !((listed.setIfInBounds i true).getD k false)) (i := i) (by simpa using hin) (by
        unfold Lst at hun; simpa using hun) (by simp [his]) (fun k hk => by
        simp [Array.getElem?_setIfInBounds_ne (Ne.symm hk)])
      unfold unl at hu ⊢
      omega
theorem unl_zero {listed : Array Bool} (h : unl ops listed = 0) : Region.ready .any ops listed = [] := by
  rw [List.eq_nil_iff_forall_not_mem]
  intro i hi
  obtain ⟨h1, o, h2, _⟩ := mem_ready.1 hi
  have := (List.countP_eq_zero.1 h) i (by simpa using (Array.getElem?_eq_some_iff.1 h2).1)
  exact (not_lst h1).2 (by simpa [Lst] using this)
theorem lin_start (t : Nat) : Lin ops (Array.replicate ops.size false) (Region.linearise .any ops t) :=
  lin_go ops.size t _ (fun _ h => unl_zero h) (by simp) (by
    unfold unl
    exact Nat.le_trans List.countP_le_length (by simp))
end
def VCL (P : Program) (ops : Array Oper) (K : Exit → St → Prop) (s : St) : Prop :=
  ∀ E a w, Den E s a w → ∀ L, Lin ops (Array.replicate ops.size false) L → wpOps P ops (fun e a w => e = .normal ∧ PostK E K .normal a w) L a w
section
variable {P : Program} {τ : List (Nat × TyI)} {sf : List Nat} {ops : Array Oper} {K : Exit → St → Prop} {s : St}
theorem VC_of_VCL (hm : P.follows .mixedOrders = true) {rid : Nat} (h : VCL P ops K s) : VC P (.region rid ops true) K s := by
  refine ⟨fun E a w hd => ?_⟩
  refine wp_mono (Q := fun e a w => e = .normal ∧ PostK E K .normal a w) (wp_region_draw fun t => ?_) (fun e a w h => by obtain ⟨rfl, h⟩ := h; exact h)
  simp only [Region.schedule, hm, Bool.true_or, if_true]
  obtain ⟨γ, hs⟩ := hd
  exact h E a _ ⟨γ, hs.ext (Fr.drew w)⟩ _ (lin_start t)
theorem VCL_draw (hτ : TyOk P τ) (hB : drawB3 sf ops = true) (h : Nx (opsVC P τ (some sf) ops ops.toList (fun s => K .normal s) s)) : VCL P ops K s := by
  intro E a w hd L hL
  obtain ⟨st, A, bs, e, hK, hT⟩ := trace_of hτ ops.toList 0 s (fun j => by simp) h.out
  simp only [drawB3, Bool.and_eq_true] at hB
  simp only [Nat.zero_add, Array.length_toList] at hK hT
  refine lin_any _ _ _ _ _ (came_any3 hτ (fun i hi => hT i (Nat.zero_le _) hi) hB.1.1.1 hB.1.1.2 hB.1.2 hB.2 (fun c a w h => by cases h.1) (fun a' w' hd' => ⟨rfl, _, hK, hd'⟩) _ _ a _ rfl ?_) hL
  obtain ⟨γ, hs⟩ := hd
  have hs' : Sim E (st 0) a w γ := by rw [e]; exact hs
  have nol : ∀ k, ¬ Lst (Array.replicate ops.size false) k := fun k hk => by
    unfold Lst at hk
    simp only [Array.getD_eq_getD_getElem?, Array.getElem?_replicate] at hk
    split at hk <;> cases hk
  exact ⟨⟨by simp, fun k o hk hl => absurd hl (nol k)⟩, 0, Nat.zero_le _, fun k hk => by omega, fun k _ hl => absurd hl (nol k), st 0, ⟨rfl, fun r => .inr ⟨fun k hk => absurd hk.2 (nol k), rfl⟩, fun L x => ⟨.inl, fun h => h.elim id (fun ⟨k, hk, _⟩ => absurd hk.2 (nol k))⟩⟩, γ, hs'⟩
end
def addE (ops : Array Oper) (i j : Nat) : Array Oper := ops.mapIdx fun k o => bif Nat.beq k i then { o with after := o.after.push ⟨j, .chain⟩ } else o
section
variable {P : Program} {ops : Array Oper} {Q : Exit → Act → World → Prop} {i j : Nat}
theorem addE_at {k : Nat} {o : Oper} (h : ops[k]? = some o) : ∃ o', (addE ops i j)[k]? = some o' ∧ o'.dst = o.dst ∧ o'.guard = o.guard ∧ (∀ a w K, Oper.wp P o' a w K Q = Oper.wp P o a w K Q) ∧ (∀ a w, Oper.asks P o' a w = Oper.asks P o a w) ∧
    ∀ e, e ∈ o'.after ↔ (e ∈ o.after ∨ (k = i ∧ e = ⟨j, .chain⟩)) := by
  unfold addE
  simp only [Array.getElem?_mapIdx, h, Option.map_some]
  refine ⟨_, rfl, ?_⟩
  cases hb : Nat.beq k i with
  | true =>
    have e := Nat.eq_of_beq_eq_true hb
    exact ⟨rfl, rfl, fun a w K => rfl, fun a w => rfl, fun e' => by simp [cond_true, e]⟩
  | false =>
    have e : ¬ k = i := fun e => by subst e; rw [Nat.beq_refl] at hb; cases hb
    exact ⟨rfl, rfl, fun a w K => rfl, fun a w => rfl, fun e' => by simp [cond_false, e]⟩
theorem addE_none {k : Nat} (h : ops[k]? = none) : (addE ops i j)[k]? = none := by
  unfold addE
  simp only [Array.getElem?_mapIdx, h, Option.map_none]
theorem addE_size : (addE ops i j).size = ops.size := by unfold addE; simp
theorem addE_dst (k : Nat) : ((addE ops i j)[k]?).bind (·.dst) = (ops[k]?).bind (·.dst) := by
  cases h : ops[k]? with
  | none => rw [addE_none h]
  | some o => obtain ⟨o', h1, h2, _⟩ := addE_at (P := default) (Q := fun _ _ _ => True) (i := i) (j := j) h; rw [h1]; exact h2
theorem addE_ready {listed : Array Bool} {k : Nat} : k ∈ Region.ready .any (addE ops i j) listed ↔ k ∈ Region.ready .any ops listed ∧ (k = i → listed.getD j false = true) := by
  rw [mem_ready, mem_ready]
  constructor
  · rintro ⟨h1, o', h2, h3⟩
    cases h : ops[k]? with
    | none => rw [addE_none h] at h2; cases h2
    | some o =>
      obtain ⟨o2, g1, _, _, _, _, g2⟩ := addE_at (P := default) (Q := fun _ _ _ => True) (i := i) (j := j) h
      rw [g1] at h2; cases h2
      exact ⟨⟨h1, o, rfl, fun e he hb => h3 e ((g2 e).2 (.inl he)) hb⟩, fun e => h3 ⟨j, .chain⟩ ((g2 _).2 (.inr ⟨e, rfl⟩)) rfl⟩
  · rintro ⟨⟨h1, o, h2, h3⟩, h4⟩
    obtain ⟨o2, g1, _, _, _, _, g2⟩ := addE_at (P := default) (Q := fun _ _ _ => True) (i := i) (j := j) h2
    refine ⟨h1, o2, g1, fun e he hb => ?_⟩
    rcases (g2 e).1 he with h | ⟨e1, rfl⟩
    · exact h3 e h hb
    · exact h4 e1
theorem addE_wp : ∀ (L : List Nat) (a : Act) (w : World), wpOps P (addE ops i j) Q L a w → wpOps P ops Q L a w
  | [], a, w, h => h
  | k :: L, a, w, h => by
    rw [wpOps_cons] at h ⊢
    have h' := wpOp_mono (fun a w h => addE_wp L a w h) h
    unfold wpOp at h' ⊢
    cases hk : ops[k]? with
    | none => rw [addE_none hk] at h'; exact h'
    | some o =>
      obtain ⟨o', h1, h2, h3, h4, h5, _⟩ := addE_at (P := P) (Q := Q) (i := i) (j := j) hk
      rw [h1] at h'
      simp only at h' ⊢
      have hw : Region.wanted o' (yielded (addE ops i j) a.tmps) = Region.wanted o (yielded ops a.tmps) := by
        unfold Region.wanted
        rw [h3]
        cases o.guard with
        | none => rfl
        | some p => simp only [yielded, addE_dst]
      rw [hw, h2, h4, h5] at h'
      exact h'
theorem getD_set {listed : Array Bool} {i k : Nat} (hi : listed.getD i true = false) : (listed.setIfInBounds i true).getD k false = true ↔ listed.getD k false = true ∨ k = i := lst_set (not_lst hi).1
theorem addE_done : ∀ {listed : Array Bool} {L : List Nat}, (listed.getD i true = true ∨ listed.getD j false = true) → Lin ops listed L → Lin (addE ops i j) listed L := by
  intro listed L hd h
  induction h with
  | nil h0 =>
    refine .nil ?_
    rw [List.eq_nil_iff_forall_not_mem] at h0 ⊢
    exact fun k hk => h0 k (addE_ready.1 hk).1
  | @cons listed k L hk hL ih =>
    have h1 := (mem_ready.1 hk).1
    refine .cons (addE_ready.2 ⟨hk, fun e => hd.elim (fun h2 => by subst e; rw [h1] at h2; cases h2) id⟩) (ih ?_)
    rcases hd with h2 | h2
    · refine .inl ?_
      by_cases e : k = i
      · subst e; rw [h1] at h2; cases h2
      · rw [getD_set_ne true e]; exact h2
    · exact .inr (getD_set_true h2)
theorem lin_split (hij : i ≠ j) (hi : i < ops.size) (hj : j < ops.size) : ∀ {listed : Array Bool} {L : List Nat}, listed.size = ops.size → listed.getD i true = false → listed.getD j true = false → Lin ops listed L → Lin (addE ops i j) listed L ∨ Lin (addE ops j i) listed L := by
  intro listed L hs h1 h2 h
  induction h with
  | @nil listed h0 =>
    refine .inl (.nil ?_)
    rw [List.eq_nil_iff_forall_not_mem] at h0 ⊢
    exact fun k hk => h0 k (addE_ready.1 hk).1
  | @cons listed k L hk hL ih =>
    have h3 := (mem_ready.1 hk).1
    have hks := (not_lst h3).1
    by_cases ei : k = i
    · refine .inr (.cons (addE_ready.2 ⟨hk, fun e => absurd (ei.symm.trans e) hij⟩) (addE_done (.inr ?_) hL))
      exact (getD_set h3).2 (.inr ei.symm)
    · by_cases ej : k = j
      · refine .inl (.cons (addE_ready.2 ⟨hk, fun e => absurd e ei⟩) (addE_done (.inr ?_) hL))
        exact (getD_set h3).2 (.inr ej.symm)
      · have := ih (by simpa using hs) (by rw [getD_set_ne true ei]; exact h1) (by rw [getD_set_ne true ej]; exact h2)
        rcases this with h4 | h4
        · exact .inl (.cons (addE_ready.2 ⟨hk, fun e => absurd e ei⟩) h4)
        · exact .inr (.cons (addE_ready.2 ⟨hk, fun e => absurd e ej⟩) h4)
theorem VCL_split {K : Exit → St → Prop} {s : St} (hij : i ≠ j) (hi : i < ops.size) (hj : j < ops.size) (h1 : VCL P (addE ops i j) K s) (h2 : VCL P (addE ops j i) K s) : VCL P ops K s := by
  intro E a w hd L hL
  have e : ∀ k, k < ops.size → (Array.replicate ops.size false).getD k true = false := fun k hk => by simp [hk]
  rcases lin_split hij hi hj (by simp) (e i hi) (e j hj) hL with h | h
  · exact addE_wp L a w (h1 E a w hd L (by rw [addE_size]; exact h))
  · exact addE_wp L a w (h2 E a w hd L (by rw [addE_size]; exact h))
end
def renum (π : List Nat) (o : Oper) : Oper := { o with after := o.after.map (fun e => { e with on := π.idxOf e.on }), guard := match o.guard with | none => none | some (j, b) => some (π.idxOf j, b) }
def perm (π : List Nat) (ops : Array Oper) : Array Oper := (π.filterMap fun k => (ops[k]?).map (renum π)).toArray
def permB (π : List Nat) (ops : Array Oper) : Bool := Nat.beq π.length ops.size && (List.range ops.size).all (fun k => Nat.blt (π.getD k ops.size) ops.size && Nat.beq (π.idxOf (π.getD k ops.size)) k && Nat.beq (π.getD (π.idxOf k) ops.size) k)
section
variable {P : Program} {ops : Array Oper} {Q : Exit → Act → World → Prop} {π : List Nat}
structure PermOk (π : List Nat) (ops : Array Oper) : Prop where
  len : π.length = ops.size
  at_ : ∀ k, k < ops.size → π.getD k ops.size < ops.size ∧ π.idxOf (π.getD k ops.size) = k ∧ π.getD (π.idxOf k) ops.size = k
theorem permB_ok (h : permB π ops = true) : PermOk π ops := by
  unfold permB at h
  simp only [Bool.and_eq_true, List.all_eq_true, List.mem_range] at h
  refine ⟨Nat.eq_of_beq_eq_true h.1, fun k hk => ?_⟩
  obtain ⟨⟨h1, h2⟩, h3⟩ := h.2 k hk
  exact ⟨blt_pos h1, Nat.eq_of_beq_eq_true h2, Nat.eq_of_beq_eq_true h3⟩
theorem getD_ltN {l : List Nat} {n d : Nat} (h : n < l.length) : l.getD n d = l[n] := by rw [List.getD_eq_getElem?_getD, List.getElem?_eq_getElem h]; rfl
theorem idx_lt (h : PermOk π ops) {k : Nat} : π.idxOf k < ops.size ↔ k < ops.size := by
  rw [← h.len, List.idxOf_lt_length_iff]
  constructor
  · intro hm
    obtain ⟨n, hn, e⟩ := List.getElem_of_mem hm
    have := (h.at_ n (by rw [← h.len]; exact hn)).1
    rw [getD_ltN hn, e] at this
    rw [h.len]; exact this
  · intro hk
    rw [h.len] at hk
    have h3 := (h.at_ k hk).2.2
    rcases Nat.lt_or_ge (π.idxOf k) π.length with h1 | h1
    · rw [getD_ltN h1] at h3
      exact h3 ▸ List.getElem_mem h1
    · rw [List.getD_eq_getElem?_getD, List.getElem?_eq_none h1] at h3
      simp at h3; omega
theorem perm_get (h : PermOk π ops) (n : Nat) : (perm π ops)[n]? = if n < ops.size then (ops[π.getD n ops.size]?).map (renum π) else none := by
  have key : ∀ (l : List Nat), (∀ k ∈ l, k < ops.size) → ∀ n : Nat, (l.filterMap fun k => (ops[k]?).map (renum π))[n]? = (l[n]?).bind fun k => (ops[k]?).map (renum π) := by
    intro l
    induction l with
    | nil => intro _ n; simp
    | cons k l ih =>
      intro hl n
      have hk := hl k (by simp)
      have e : (ops[k]?).map (renum π) = some (renum π ops[k]) := by rw [Array.getElem?_eq_getElem hk]; rfl
      rw [List.filterMap_cons, e]
      cases n with
      | zero => simp [hk]
      | succ n => simp only [List.getElem?_cons_succ]; exact ih (fun k hk => hl k (by simp [hk])) n
  have hall : ∀ k ∈ π, k < ops.size := fun k hk => by
    obtain ⟨n, hn, e⟩ := List.getElem_of_mem hk
    have := (h.at_ n (by rw [← h.len]; exact hn)).1
    rw [getD_ltN hn, e] at this
    exact this
  unfold perm
  rw [List.getElem?_toArray, key π hall n]
  by_cases hn : n < ops.size
  · rw [if_pos hn]
    have hn' : n < π.length := by rw [h.len]; exact hn
    rw [List.getElem?_eq_getElem hn', getD_ltN hn']; rfl
  · rw [if_neg hn, List.getElem?_eq_none (by rw [h.len]; omega)]; rfl
theorem perm_size (h : PermOk π ops) : (perm π ops).size = ops.size := by
  have h1 := perm_get h
  have a : (perm π ops).size ≤ ops.size := by
    rcases Nat.lt_or_ge ops.size (perm π ops).size with h2 | h2
    · have := h1 ops.size
      rw [if_neg (by omega), Array.getElem?_eq_getElem h2] at this; cases this
    · exact h2
  have b : ops.size ≤ (perm π ops).size := by
    rcases Nat.lt_or_ge (perm π ops).size ops.size with h2 | h2
    · have := h1 (perm π ops).size
      rw [if_pos h2, Array.getElem?_eq_none (Nat.le_refl _), Array.getElem?_eq_getElem (h.at_ _ h2).1] at this; cases this
    · exact h2
  omega
theorem perm_at (h : PermOk π ops) {k : Nat} {o : Oper} (hk : ops[k]? = some o) : (perm π ops)[π.idxOf k]? = some (renum π o) := by
  have hk' : k < ops.size := (Array.getElem?_eq_some_iff.1 hk).1
  rw [perm_get h, if_pos ((idx_lt h).2 hk'), (h.at_ k hk').2.2, hk]; rfl
theorem perm_dst (h : PermOk π ops) (k : Nat) : ((perm π ops)[π.idxOf k]?).bind (·.dst) = (ops[k]?).bind (·.dst) := by
  cases hk : ops[k]? with
  | some o => rw [perm_at h hk]; rfl
  | none =>
    have : ¬ k < ops.size := fun h1 => by rw [Array.getElem?_eq_getElem h1] at hk; cases hk
    rw [perm_get h, if_neg (fun h1 => this ((idx_lt h).1 h1))]
theorem perm_ready (h : PermOk π ops) {listed listed' : Array Bool} (hs : listed.size = ops.size) (hs' : listed'.size = ops.size) (hl : ∀ k, k < ops.size → listed'.getD (π.idxOf k) false = listed.getD k false) {k : Nat} :
    (k ∈ Region.ready .any ops listed → π.idxOf k ∈ Region.ready .any (perm π ops) listed') ∧ (k < ops.size → π.idxOf k ∈ Region.ready .any (perm π ops) listed' → k ∈ Region.ready .any ops listed) := by
  have nt : ∀ (l : Array Bool) (n : Nat), n < l.size → (l.getD n true = false ↔ l.getD n false = false) := fun l n hn => by simp [hn]
  have on : ∀ n, listed.getD n false = true ↔ listed'.getD (π.idxOf n) false = true := fun n => by
    by_cases hn : n < ops.size
    · rw [hl n hn]
    · have h1 : ¬ π.idxOf n < ops.size := fun h1 => hn ((idx_lt h).1 h1)
      simp [hs, hs', hn, h1]
  rw [mem_ready, mem_ready]
  constructor
  · rintro ⟨h1, o, h2, h3⟩
    have hk : k < ops.size := (Array.getElem?_eq_some_iff.1 h2).1
    refine ⟨(nt _ _ (by rw [hs']; exact (idx_lt h).2 hk)).2 ((hl k hk).trans ((nt _ _ (by rw [hs]; exact hk)).1 h1)), _, perm_at h h2, fun e he hb => ?_⟩
    simp only [renum, Array.mem_map] at he
    obtain ⟨e', he', rfl⟩ := he
    exact (on e'.on).1 (h3 e' he' hb)
  · rintro hk ⟨h1, o', h2, h3⟩
    have hk' : ops[k]? = some ops[k] := Array.getElem?_eq_getElem hk
    rw [perm_at h hk'] at h2
    cases h2
    refine ⟨(nt _ _ (by rw [hs]; exact hk)).2 ((hl k hk).symm.trans ((nt _ _ (by rw [hs']; exact (idx_lt h).2 hk)).1 h1)), _, hk', fun e he hb => ?_⟩
    exact (on e.on).2 (h3 { e with on := π.idxOf e.on } (by simp only [renum, Array.mem_map]; exact ⟨e, he, rfl⟩) hb)
theorem perm_lin (h : PermOk π ops) : ∀ {listed : Array Bool} {L : List Nat}, Lin ops listed L → ∀ {listed' : Array Bool}, listed.size = ops.size → listed'.size = ops.size → (∀ k, k < ops.size → listed'.getD (π.idxOf k) false = listed.getD k false) → Lin (perm π ops) listed' (L.map π.idxOf) := by
  intro listed L hL
  induction hL with
  | @nil listed h0 =>
    intro listed' hs hs' hl
    refine .nil ?_
    rw [List.eq_nil_iff_forall_not_mem] at h0 ⊢
    intro n hn
    obtain ⟨_, o, h2, _⟩ := mem_ready.1 hn
    have hn' : n < ops.size := by rw [← perm_size h]; exact (Array.getElem?_eq_some_iff.1 h2).1
    have e := (h.at_ n hn').2.1
    have := (perm_ready h hs hs' hl (k := π.getD n ops.size)).2 (h.at_ n hn').1 (by rw [e]; exact hn)
    exact h0 _ this
  | @cons listed k L hk hL ih =>
    intro listed' hs hs' hl
    have hkr := (perm_ready h hs hs' hl (k := k)).1 hk
    obtain ⟨h1, o, h2, _⟩ := mem_ready.1 hk
    have hkn : k < ops.size := (Array.getElem?_eq_some_iff.1 h2).1
    refine .cons hkr (ih (by simpa using hs) (by simpa using hs') (fun n hn => ?_))
    by_cases e : n = k
    · subst e
      have i1 : π.idxOf n < listed'.size := by rw [hs']; exact (idx_lt h).2 hkn
      have i2 : n < listed.size := by rw [hs]; exact hkn
      simp [i1, i2]
    · have e' : π.idxOf k ≠ π.idxOf n := fun e2 => e (by
        have a := (h.at_ k hkn).2.2
        have b := (h.at_ n hn).2.2
        rw [← b, ← e2, a])
      rw [getD_set_ne false e', getD_set_ne false (Ne.symm e)]
      exact hl n hn
theorem perm_wp (h : PermOk π ops) : ∀ (L : List Nat) (a : Act) (w : World), wpOps P (perm π ops) Q (L.map π.idxOf) a w → wpOps P ops Q L a w
  | [], a, w, h' => h'
  | k :: L, a, w, h' => by
    rw [List.map_cons, wpOps_cons] at h'
    rw [wpOps_cons]
    have h2 := wpOp_mono (fun a w h' => perm_wp h L a w h') h'
    unfold wpOp at h2 ⊢
    cases hk : ops[k]? with
    | none =>
      have : ¬ k < ops.size := fun h1 => by rw [Array.getElem?_eq_getElem h1] at hk; cases hk
      rw [perm_get h, if_neg (fun h1 => this ((idx_lt h).1 h1))] at h2
      exact h2
    | some o =>
      rw [perm_at h hk] at h2
      simp only at h2 ⊢
      have hw : Region.wanted (renum π o) (yielded (perm π ops) a.tmps) = Region.wanted o (yielded ops a.tmps) := by
        unfold Region.wanted renum
        cases o.guard with
        | none => rfl
        | some p => obtain ⟨j, b⟩ := p; simp only [yielded, perm_dst h]
      rw [hw] at h2
      exact h2
theorem VCL_perm {K : Exit → St → Prop} {s : St} (hB : permB π ops = true) (h1 : VCL P (perm π ops) K s) : VCL P ops K s := by
  intro E a w hd L hL
  have h := permB_ok hB
  refine perm_wp h L a w (h1 E a w hd _ (perm_lin h hL (by simp) (by simp [perm_size h]) (fun k hk => ?_)))
  have i1 := (idx_lt h).2 hk
  rw [perm_size h]
  simp [i1, hk]
end
inductive Tr where
  | lf (π : List Nat)
  | nd (i j : Nat) (a b : Tr)
def okT (sf : List Nat) : Tr → Array Oper → Bool
  | .lf π, ops => permB π ops && drawB3 sf (perm π ops)
  | .nd i j a b, ops => !(Nat.beq i j) && Nat.blt i ops.size && Nat.blt j ops.size && okT sf a (addE ops i j) && okT sf b (addE ops j i)
def Sm (ops0 ops : Array Oper) : Prop := ∀ k : Nat, (ops[k]?).map (fun o : Oper => (o.dst, o.op, o.guard)) = (ops0[k]?).map (fun o : Oper => (o.dst, o.op, o.guard))
theorem Sm.addE {ops0 ops : Array Oper} {i j : Nat} (h : Sm ops0 ops) : Sm ops0 (addE ops i j) := by
  intro k
  rw [← h k]
  unfold Go.Proofs.YtbepgedckfhifaaGreat.addE
  simp only [Array.getElem?_mapIdx, Option.map_map]
  cases ops[k]? with
  | none => rfl
  | some o => cases hb : Nat.beq k i <;> simp
theorem opVC_same {P : Program} {τ : List (Nat × TyI)} {sf : Option (List Nat)} {o o' : Oper} (h1 : o'.dst = o.dst) (h2 : o'.op = o.op) {s : St} {K : St → Prop} : opVC P τ sf o' s K = opVC P τ sf o s K := by
  have h3 : ∀ l, solidB l o' = solidB l o := fun l => by unfold solidB; rw [h1, h2]
  have h4 : ∀ ns, allow sf o' ns = allow sf o ns := fun ns => by unfold allow; cases sf with
    | none => rfl
    | some l => simp only [h3]
  have h5 : ∀ d f args K, callVC P sf o' s d f args K = callVC P sf o s d f args K := fun d f args K => by unfold callVC; simp only [h4]
  unfold opVC
  rw [h1, h2]
  simp only [h5]
def pick (π : List Nat) (ops : Array Oper) : List Oper := π.filterMap fun k => ops[k]?
theorem skipVC_same {o o' : Oper} (h1 : o'.dst = o.dst) {s : St} {K : St → Prop} : skipVC o' s K = skipVC o s K := by unfold skipVC; rw [h1]
theorem opsVC_perm {P : Program} {τ : List (Nat × TyI)} {sf : Option (List Nat)} {ops0 ops : Array Oper} {π : List Nat} (h : PermOk π ops) (hs : Sm ops0 ops) {K : St → Prop} : ∀ (l : List Nat), opsVC P τ sf (perm π ops) (l.filterMap fun k => (ops[k]?).map (renum π)) K = opsVC P τ sf ops0 (pick l ops0) K
  | [] => rfl
  | k :: l => by
    have hk := hs k
    have ih := opsVC_perm (P := P) (τ := τ) (sf := sf) h hs (K := K) l
    cases h0 : ops0[k]? with
    | none =>
      rw [h0] at hk
      cases h2 : ops[k]? with
      | some o => rw [h2] at hk; cases hk
      | none =>
        have e1 : pick (k :: l) ops0 = pick l ops0 := by simp [pick, h0]
        simp only [List.filterMap_cons, h2, Option.map_none]
        rw [e1]; exact ih
    | some o =>
      rw [h0] at hk
      cases h2 : ops[k]? with
      | none => rw [h2] at hk; cases hk
      | some o' =>
        rw [h2] at hk
        simp only [Option.map_some, Option.some.injEq, Prod.mk.injEq] at hk
        obtain ⟨e1, e2, e3⟩ := hk
        have ep : pick (k :: l) ops0 = o :: pick l ops0 := by simp [pick, h0]
        simp only [List.filterMap_cons, h2, Option.map_some]
        rw [ep]
        have ed : (renum π o').dst = o.dst := e1
        have eo : (renum π o').op = o.op := e2
        funext s
        unfold opsVC
        simp only [fK_eq]
        rw [ih]
        cases hg : o.guard with
        | none =>
          have hg' : (renum π o').guard = none := by unfold renum; rw [e3, hg]
          rw [hg']
          exact opVC_same ed eo
        | some p =>
          obtain ⟨j, want⟩ := p
          have hg' : (renum π o').guard = some (π.idxOf j, want) := by unfold renum; rw [e3, hg]
          have hd : ((perm π ops)[π.idxOf j]?).bind (·.dst) = (ops0[j]?).bind (·.dst) := by
            rw [perm_dst h]
            have := hs j
            cases a1 : ops[j]? <;> cases a2 : ops0[j]? <;> rw [a1, a2] at this <;> simp at this
            exact this.1
          rw [hg']
          simp only
          rw [hd]
          simp only [opVC_same ed eo, skipVC_same ed]
def Tr.leaves : Tr → List (List Nat) → List (List Nat)
  | .lf π, l => π :: l
  | .nd _ _ a b, l => a.leaves (b.leaves l)
def VCT (P : Program) (τ : List (Nat × TyI)) (sf : List Nat) (K : Exit → St → Prop) (s : St) (ops : Array Oper) : List (List Nat) → Prop
  | [] => True
  | π :: l => Nx (opsVC P τ (some sf) ops (pick π ops) (fun s => K .normal s) s) ∧ VCT P τ sf K s ops l
theorem VCT_VCL {P : Program} {τ : List (Nat × TyI)} {sf : List Nat} (hτ : TyOk P τ) {K : Exit → St → Prop} {s : St} {ops0 : Array Oper} : ∀ (T : Tr) (ops : Array Oper) (l : List (List Nat)), Sm ops0 ops → okT sf T ops = true → VCT P τ sf K s ops0 (T.leaves l) → VCL P ops K s ∧ VCT P τ sf K s ops0 l
  | .lf π, ops, l, hS, hB, h => by
    simp only [okT, Bool.and_eq_true] at hB
    have e := opsVC_perm (P := P) (τ := τ) (sf := some sf) (K := fun s => K .normal s) (permB_ok hB.1) hS π
    have e2 : (perm π ops).toList = π.filterMap fun k => (ops[k]?).map (renum π) := by unfold perm; simp
    refine ⟨VCL_perm hB.1 (VCL_draw hτ hB.2 ⟨?_⟩), h.2⟩
    rw [e2, e]
    exact h.1.out
  | .nd i j a b, ops, l, hS, hB, h => by
    simp only [okT, Bool.and_eq_true] at hB
    obtain ⟨h1, h2⟩ := VCT_VCL hτ a _ _ hS.addE hB.1.2 h
    obtain ⟨h3, h4⟩ := VCT_VCL hτ b _ _ hS.addE hB.2 h2
    exact ⟨VCL_split (fun e => by subst e; simp at hB) (blt_pos hB.1.1.1.2) (blt_pos hB.1.1.2) h1 h3, h4⟩
theorem VC_tree {P : Program} {τ : List (Nat × TyI)} {sf : List Nat} {ops : Array Oper} (hτ : TyOk P τ) (hm : P.follows .mixedOrders = true) {rid : Nat} {K : Exit → St → Prop} {s : St} (T : Tr) (hB : okT sf T ops = true) (h : VCT P τ sf K s ops (T.leaves [])) : VC P (.region rid ops true) K s :=
  VC_of_VCL hm (VCT_VCL hτ T ops [] (ops0 := ops) (fun _ => rfl) hB h).1
def badPair (sf : List Nat) (ops : Array Oper) : Option (Nat × Nat) :=
  let B := (Region.before ops).toList
  let n := ops.size
  ((List.range n).flatMap fun i => (List.range n).map fun j => (i, j)).find? fun (i, j) =>
    match ops[i]?, ops[j]? with
    | some o, some o' => !(Nat.beq i j) && solidB sf o && !(ordB B i j) && !((exts2 ops).contains j && o'.after.toList.all fun e => !Region.binds .any e || (B.getD i 0).testBit e.on)
    | _, _ => false
def topo (ops : Array Oper) : Nat → Array Bool → List Nat
  | 0, _ => []
  | f + 1, l => match Region.ready .any ops l with
    | [] => []
    | x :: xs => let y := ((x :: xs).find? fun k => (exts2 ops).contains k).getD x; y :: topo ops f (l.setIfInBounds y true)
def mkT (sf : List Nat) : Nat → Array Oper → Tr
  | 0, ops => .lf []
  | f + 1, ops =>
    let π := topo ops ops.size (Array.replicate ops.size false)
    match badPair sf (perm π ops) with
    | none => .lf π
    | some (i, j) => let i := π.getD i 0; let j := π.getD j 0; .nd i j (mkT sf f (addE ops i j)) (mkT sf f (addE ops j i))
end Go.Proofs.YtbepgedckfhifaaGreat
