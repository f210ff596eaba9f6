/-
  From a function's text to what it does.
-/
import Derived.Test.YtbncmiglhjfcdaaCx
namespace Go.Proofs.Ytbncmiglhjfcdaa
open Go.RowKit
set_option linter.unusedVariables false

/-- The frame's state at a loop's head: what the loop writes is told anew. -/
def St.inv (s : St) (wr : List Nat) (l : List (Nat × AV)) (bk : List Nat) (b : List (Nat × Option Blk)) : St :=
  ⟨l ++ s.slots.filter (fun p => !(wr.contains p.1)), b ++ s.store.filter (fun p => !(bk.contains p.1)), s.n⟩
/-- A loop: the states at its head, by an index that goes down. -/
theorem VC_loopI {P : Program} {τ : List (Nat × TyI)} (hτ : TyOk P τ) {c : Code} {K : Exit → St → Prop} {s : St} {ι : Type} (I : ι → St) (p : ι → Prop) (μ : ι → Nat) (i0 : ι) (h0 : p i0) (hs : s.Le (I i0))
    (round : ∀ i, p i → Nx (vc P τ c (seqK (fun s' => ∃ i', p i' ∧ μ i' < μ i ∧ s'.Le (I i')) K) (I i))) : VC P (.loop c) K s :=
  VC_loop hτ I p μ (fun s' i' => s'.Le (I i')) (fun s' i' h => h.le) i0 h0 hs.le round

def argSlots : Nat → AV → List (Nat × AV)
  | i, .cons a l => (i, a) :: argSlots (i + 1) l
  | _, _ => []
theorem lks_args : ∀ (l : AV) (i t : Nat) (vs : List Value) {w : World} {own : Bool → Nat → Prop} {γ : Nm → Value} {m : Md}, Reps w own γ l m vs → (lks (argSlots i l) t = .top) ∨ ∃ k, t = i + k ∧ k < l.len ∧ lks (argSlots i l) t = l.nth k := by
  intro l
  induction l with
  | cons a l iha ihl =>
    rintro i t vs w own γ m ⟨v, us, rfl, h1, h2⟩
    simp only [argSlots, lks]
    cases hb : Nat.beq i t with
    | true => exact .inr ⟨0, by have := Nat.eq_of_beq_eq_true hb; omega, by simp [AV.len], rfl⟩
    | false =>
      rcases ihl (i + 1) t us h2 with h | ⟨k, h3, h4, h5⟩
      · exact .inl h
      · exact .inr ⟨k + 1, by omega, by simp [AV.len]; omega, h5⟩
  | _ => intro i t vs w own γ m h; exact .inl rfl
def stOf : List (Nat × Blk) → List (Nat × Option Blk)
  | [] => []
  | p :: l => (p.1, some p.2) :: stOf l
theorem stOf_lkb (σ : List (Nat × Blk)) (L : Nat) : lkb (stOf σ) L = lkx σ L := by
  induction σ with
  | nil => rfl
  | cons p l ih => simp only [stOf, lkb, lkx]; rw [ih]
def St.of (args : AV) (σ : List (Nat × Blk)) (n : Nat) : St := ⟨argSlots 0 args, stOf σ, n⟩

section
variable {P : Program} {τ : List (Nat × TyI)} {E : Ent0} {w : World} {s : St} {a : Act} {γ : Nm → Value}

theorem of_at {args : AV} {σ : List (Nat × Blk)} {n : Nat} {N : Nm} {x : Blk} : (St.of args σ n).at N x ↔ AtL (lkx σ) N x := by
  have : (St.of args σ n).rblk = lkx σ := by funext L; exact stOf_lkb σ L
  unfold St.at; rw [this]
theorem sim_entry {args : AV} {σ : List (Nat × Blk)} {vs : List Value} {n : Nat} (hP : Pre E σ) (h : Reps E.w (E.ow (ownL σ E.g)) E.g args .o vs) (ha : ∀ N, args.has N → ∃ x, AtL (lkx σ) N x) (hn : vs.length ≤ n) :
    Sim E (St.of args σ n) { tmps := vs.toArray ++ Array.replicate (n - vs.toArray.size) undef, defers := [] } E.w E.g := by
  have ho : (St.of args σ n).own E.g = ownL σ E.g := by
    funext k
    exact propext ⟨fun ⟨N, x, h1, h2⟩ => ⟨N, x, of_at.1 h1, h2⟩, fun ⟨N, x, h1, h2⟩ => ⟨N, x, of_at.2 h1, h2⟩⟩
  refine ⟨by simp [St.of]; omega, rfl, fun t => ?_, fun N x hN => ?_, fun N x bk hN hb => ?_, fun N M x y bk hN hM => hP.inj N M x y bk (of_at.1 hN) (of_at.1 hM), ⟨fun t N hN => ?_, fun M x N hM hN => ?_⟩, fun L hL _ => rfl, Fr.refl _ _⟩
  · rw [ho]
    rcases lks_args args 0 t vs h with e | ⟨k, rfl, hk, e⟩
    · rw [show (St.of args σ n).slot t = .top from e]; exact ⟨_, rfl⟩
    · rw [show (St.of args σ n).slot (0 + k) = args.nth k from e]
      obtain ⟨u, h1, h2⟩ := h.nth hk
      have : (vs.toArray ++ Array.replicate (n - vs.toArray.size) undef).getD (0 + k) undef = u := by
        have hk' : k < vs.length := by rw [h.len]; exact hk
        rw [Array.getD_eq_getD_getElem?, Nat.zero_add, Array.getElem?_append_left (by simpa using hk')]
        simp [h1]
      rw [this]; exact h2
  · rw [ho]; exact hP.blks N x (of_at.1 hN)
  · exact ⟨hP.mine N x bk (of_at.1 hN) hb, .inr (by rw [hP.b]; exact ⟨N, x, of_at.1 hN, hb⟩)⟩
  · rcases lks_args args 0 t vs h with e | ⟨k, rfl, hk, e⟩
    · rw [show (St.of args σ n).slot t = .top from e] at hN; exact hN.elim
    · rw [show (St.of args σ n).slot (0 + k) = args.nth k from e] at hN
      obtain ⟨x, hx⟩ := ha N (has_nth hN)
      exact ⟨x, of_at.2 hx⟩
  · obtain ⟨y, hy⟩ := hP.wf M x N (of_at.1 hM) hN
    exact ⟨y, of_at.2 hy⟩

def resA (τ : List (Nat × TyI)) (s : St) : ResultVar → Option AV
  | .tmp t => some (s.slot t)
  | .cell a t => match ty? τ t with | some i => (match loadA s i.agg i.size (s.slot a) with | .val x => some x | _ => none) | none => none
def resAs (τ : List (Nat × TyI)) (s : St) : List ResultVar → Option AV
  | [] => some .nil
  | r :: l => match resA τ s r, resAs τ s l with | some x, some y => some (.cons x y) | _, _ => none
def resV (τ : List (Nat × TyI)) (s : St) : List ResultVar → Option AV
  | [r] => resA τ s r
  | l => match resAs τ s l with | some x => some (.tup x) | none => none

def resF (tmps : Array Value) : ResultVar → Sem Value
  | .tmp t => pure (tmps.getD t undef)
  | .cell b t => do loadVar t (← asAddr (tmps.getD b undef))
theorem results_eq (fn : Func) (tmps : Array Value) : results fn tmps = (do let vs ← fn.results.mapM (resF tmps); pure (if h : vs.size = 1 then vs[0] else .tuple vs)) := by
  unfold results
  congr 1
theorem resA_sound (hτ : TyOk P τ) (h : Sim E s a w γ) {r : ResultVar} {x : AV} (hr : resA τ s r = some x) :
    ∃ v, (resF a.tmps r).run P w = .ok v w ∧ Reps w (E.ow (s.own γ)) γ x .o [v] ∧ s.live x := by
  cases r with
  | tmp t => cases hr; exact ⟨_, rfl, h.slots t, h.wf.slot t⟩
  | cell b t =>
    simp only [resA] at hr
    split at hr
    · rename_i i hi
      split at hr
      · rename_i x' hx
        cases hr
        obtain ⟨_, u, h1, h2, h3⟩ := load_sound h (hτ _ _ hi) (h.slots b) (h.wf.slot b) (a := x) (nb := none) (by rw [hx]; exact .val)
        refine ⟨u, ?_, h2, h3⟩
        cases hv : a.tmps.getD b undef with
        | pointer ad =>
          cases ad with
          | none => rw [hv] at h1; simp [Instr.loadAt, Instr.sureAddr, stuck] at h1
          | some ad =>
            rw [hv] at h1
            simp only [resF, hv]
            simpa [Instr.loadAt, Instr.sureAddr, asAddr] using h1
        | _ => rw [hv] at h1; simp [Instr.loadAt, Instr.sureAddr, stuck] at h1
      · cases hr
    · cases hr
theorem resAs_sound (hτ : TyOk P τ) (h : Sim E s a w γ) : ∀ {l : List ResultVar} {x : AV}, resAs τ s l = some x →
    ∃ vs, (l.mapM (resF a.tmps)).run P w = .ok vs w ∧ Reps w (E.ow (s.own γ)) γ x .o vs ∧ s.live x := by
  intro l
  induction l with
  | nil => intro x hr; cases hr; exact ⟨[], by simp, rfl, fun M hM => hM.elim⟩
  | cons r l ih =>
    intro x hr
    simp only [resAs] at hr
    split at hr
    · rename_i x1 x2 e1 e2
      cases hr
      obtain ⟨v, h1, h2, h3⟩ := resA_sound (P := P) hτ h e1
      obtain ⟨vs, h4, h5, h6⟩ := ih e2
      refine ⟨v :: vs, ?_, ⟨v, vs, rfl, h2, h5⟩, fun M hM => hM.elim (h3 M) (h6 M)⟩
      rw [List.mapM_cons]
      simp only [Sem.run_bind, h1, Result.andThen_ok, h4, Sem.run_pure]
    · cases hr
theorem resAs_len : ∀ {l : List ResultVar} {x : AV}, resAs τ s l = some x → x.len = l.length := by
  intro l
  induction l with
  | nil => intro x h; cases h; rfl
  | cons r l ih =>
    intro x h
    simp only [resAs] at h
    split at h
    · rename_i x1 x2 e1 e2
      cases h
      simp [AV.len, ih e2]
    · cases h
theorem resV_sound (hτ : TyOk P τ) (h : Sim E s a w γ) {fn : Func} {x : AV} (hr : resV τ s fn.results.toList = some x) : ∃ v, (results fn a.tmps).run P w = .ok v w ∧ Reps w (E.ow (s.own γ)) γ x .o [v] ∧ s.live x := by
  have hm : ∀ {vs : List Value}, (fn.results.toList.mapM (resF a.tmps)).run P w = .ok vs w →
      (results fn a.tmps).run P w = .ok (if h : vs.toArray.size = 1 then vs.toArray[0] else .tuple vs.toArray) w := by
    intro vs hvs
    rw [results_eq, Array.mapM_eq_mapM_toList]
    simp [hvs]
  unfold resV at hr
  split at hr
  · rename_i r hl
    obtain ⟨v, h1, h2, h3⟩ := resA_sound (P := P) hτ h hr
    refine ⟨v, ?_, h2, h3⟩
    have := hm (vs := [v]) (by rw [hl, List.mapM_cons]; simp only [Sem.run_bind, h1, Result.andThen_ok, List.mapM_nil, Sem.run_pure])
    simpa using this
  · rename_i l hl
    split at hr
    · rename_i y hy
      cases hr
      obtain ⟨vs, h1, h2, h3⟩ := resAs_sound (P := P) hτ h hy
      refine ⟨.tuple vs.toArray, ?_, ⟨vs, rfl, h2⟩, h3⟩
      have hne : ¬ vs.toArray.size = 1 := by
        intro h1
        have h4 : vs.length = fn.results.toList.length := h2.len.trans (resAs_len hy)
        have h5 : fn.results.toList.length = 1 := by rw [← h4]; simpa using h1
        obtain ⟨r, hr⟩ := List.length_eq_one_iff.1 h5
        exact hl r hr
      rw [hm h1, dif_neg hne]
    · cases hr

/-- The contract's names in the function's own words. -/
def gOf : List (Nat × Nat) → Nat → Nat
  | [], L => L
  | p :: l, L => bif Nat.beq p.1 L then p.2 else gOf l L
def gN (gl : List (Nat × Nat)) (L : Nat) : Nm := rt (gOf gl L)
def gSt (gl : List (Nat × Nat)) : List (Nat × Blk) → List (Nat × Option Blk)
  | [] => []
  | p :: l => (gOf gl p.1, some (p.2.rn (gN gl))) :: gSt gl l
def ndN : List Nat → Bool
  | [] => true
  | x :: l => (l.all fun y => !Nat.beq y x) && ndN l
def lowOk (gl : List (Nat × Nat)) (σ : List (Nat × Blk)) : Bool := σ.all fun p => Nat.ble low p.1 || Nat.beq (gOf gl p.1) p.1
def newAll : List (Nat × Blk) → Prop
  | [] => True
  | p :: l => p.2.new ∧ newAll l
def withinAll (ns : List Nat) : List (Nat × Blk) → Prop
  | [] => True
  | p :: l => p.2.within ns ∧ withinAll ns l
/-- What is left at a function's end. -/
structure RetOk (s : St) (x : AV) (gl : List (Nat × Nat)) (nw : Bool) (r : AV) (σ : List (Nat × Blk)) : Prop where
  chk : (ndN (σ.map fun p => gOf gl p.1) && lowOk gl σ) = true
  le : s.Le ⟨[], gSt gl σ, s.n⟩
  val : avle s x false (r.rn (gN gl))
  within : r.within (names (stOf σ)) ∧ withinAll (names (stOf σ)) σ
  new : nw = true → r.new ∧ newAll σ
def retP (s : St) (nw : Bool) (r : AV) (σ : List (Nat × Blk)) (x : AV) : Prop := ∃ gl, RetOk s x gl nw r σ
def retK (τ : List (Nat × TyI)) (res : List ResultVar) (nw : Bool) (r : AV) (σ : List (Nat × Blk)) : Exit → St → Prop
  | .ret, s => (match resV τ s res with | some x => x.force (retP s nw r σ) | none => False)
  | .normal, s => (match resV τ s res with | some x => x.force (retP s nw r σ) | none => False)
  | _, _ => False

theorem newAll_at : ∀ {σ : List (Nat × Blk)} {L : Nat} {y : Blk}, newAll σ → lkx σ L = some y → y.new := by
  intro σ
  induction σ with
  | nil => intro L y _ h; cases h
  | cons p l ih =>
    intro L y hn h
    unfold lkx at h
    cases hb : Nat.beq p.1 L with
    | true => rw [hb] at h; cases h; exact hn.1
    | false => rw [hb] at h; exact ih hn.2 h
theorem ndN_spec {gl : List (Nat × Nat)} : ∀ {σ : List (Nat × Blk)}, ndN (σ.map fun p => gOf gl p.1) = true → ∀ {L M : Nat} {x y : Blk}, lkx σ L = some x → lkx σ M = some y → gOf gl L = gOf gl M → L = M := by
  intro σ
  induction σ with
  | nil => intro _ L M x y h; cases h
  | cons p l ih =>
    intro hn L M x y hL hM e
    simp only [List.map_cons, ndN, Bool.and_eq_true] at hn
    have inl : ∀ {K : Nat} {z : Blk}, lkx l K = some z → gOf gl K ≠ gOf gl p.1 := fun {K z} hK e1 => by
      have hm : ∃ q ∈ l, q.1 = K := by
        clear ih hn hL hM e
        induction l with
        | nil => cases hK
        | cons q l ihl =>
          unfold lkx at hK
          cases hb : Nat.beq q.1 K with
          | true => exact ⟨q, by simp, Nat.eq_of_beq_eq_true hb⟩
          | false => rw [hb] at hK; obtain ⟨q', h1, h2⟩ := ihl hK; exact ⟨q', by simp [h1], h2⟩
      obtain ⟨q, h1, h2⟩ := hm
      have := (List.all_eq_true.1 hn.1) (gOf gl q.1) (List.mem_map.2 ⟨q, h1, rfl⟩)
      rw [h2, e1, Nat.beq_refl] at this; cases this
    unfold lkx at hL hM
    cases hb : Nat.beq p.1 L with
    | true =>
      have e1 := Nat.eq_of_beq_eq_true hb
      cases hc : Nat.beq p.1 M with
      | true => exact e1.symm.trans (Nat.eq_of_beq_eq_true hc)
      | false => rw [hc] at hM; exact absurd (by rw [← e, e1]) (inl hM)
    | false =>
      rw [hb] at hL
      cases hc : Nat.beq p.1 M with
      | true => exact absurd (by rw [e, Nat.eq_of_beq_eq_true hc]) (inl hL)
      | false => rw [hc] at hM; exact ih hn.2 hL hM e
theorem gSt_lkb {gl : List (Nat × Nat)} : ∀ {σ : List (Nat × Blk)}, ndN (σ.map fun p => gOf gl p.1) = true → ∀ {L : Nat} {x : Blk}, lkx σ L = some x → lkb (gSt gl σ) (gOf gl L) = some (x.rn (gN gl)) := by
  intro σ
  induction σ with
  | nil => intro _ L x h; cases h
  | cons p l ih =>
    intro hn L x hL
    have hn0 := hn
    simp only [List.map_cons, ndN, Bool.and_eq_true] at hn
    have hL0 := hL
    unfold lkx at hL
    simp only [gSt, lkb]
    cases hb : Nat.beq p.1 L with
    | true => rw [hb] at hL; cases hL; rw [Nat.eq_of_beq_eq_true hb, Nat.beq_refl]; rfl
    | false =>
      rw [hb] at hL
      have hne : gOf gl p.1 ≠ gOf gl L := fun e => by
        have := ndN_spec hn0 (L := p.1) (M := L) (x := p.2) (y := x) (by simp [lkx]) hL0 e
        rw [this, Nat.beq_refl] at hb; cases hb
      rw [beq_ne hne]
      exact ih hn.2 hL
theorem lowOk_spec {gl : List (Nat × Nat)} : ∀ {σ : List (Nat × Blk)}, lowOk gl σ = true → ∀ {L : Nat} {x : Blk}, L < low → lkx σ L = some x → gOf gl L = L := by
  intro σ
  induction σ with
  | nil => intro _ L x _ h; cases h
  | cons p l ih =>
    intro hn L x hlow hL
    have hn' : (Nat.ble low p.1 || Nat.beq (gOf gl p.1) p.1) = true ∧ lowOk gl l = true := by simpa [lowOk] using hn
    unfold lkx at hL
    cases hb : Nat.beq p.1 L with
    | true =>
      have e := Nat.eq_of_beq_eq_true hb
      have h9 := hn'.1
      simp only [Bool.or_eq_true] at h9
      rcases h9 with h1 | h1
      · have := Nat.le_of_ble_eq_true h1; omega
      · rw [← e]; exact Nat.eq_of_beq_eq_true h1
    | false => rw [hb] at hL; exact ih hn'.2 hlow hL

theorem names_gSt {gl : List (Nat × Nat)} : ∀ {σ : List (Nat × Blk)} {L : Nat}, L ∈ names (stOf σ) → gOf gl L ∈ names (gSt gl σ) := by
  intro σ
  induction σ with
  | nil => intro L h; cases h
  | cons p l ih =>
    intro L h
    simp only [stOf, names] at h
    simp only [gSt, names]
    rcases List.mem_cons.1 h with rfl | h
    · simp
    · exact List.mem_cons_of_mem _ (ih h)
theorem names_stOf : ∀ {σ : List (Nat × Blk)} {L : Nat}, L ∈ names (stOf σ) → (lkx σ L).isSome = true := by
  intro σ
  induction σ with
  | nil => intro L h; cases h
  | cons p l ih =>
    intro L h
    simp only [stOf, names] at h
    unfold lkx
    cases hb : Nat.beq p.1 L with
    | true => rfl
    | false =>
      rcases List.mem_cons.1 h with rfl | h
      · rw [Nat.beq_refl] at hb; cases hb
      · exact ih h
theorem within_rn {gl : List (Nat × Nat)} {ns ns' : List Nat} (h : ∀ L ∈ ns, gOf gl L ∈ ns') : ∀ {a : AV}, a.within ns → (a.rn (gN gl)).within ns' := by
  intro a
  induction a with
  | cons a l iha ihl => exact fun h => ⟨iha h.1, ihl h.2⟩
  | agg l ih => exact ih
  | tup l ih => exact ih
  | fn f l ih => exact ih
  | op N j => intro h1; have h2 : ns.contains N.r = true := h1; show ns'.contains (gOf gl N.r) = true; simp at h2 ⊢; exact h _ h2
  | om N => intro h1; have h2 : ns.contains N.r = true := h1; show ns'.contains (gOf gl N.r) = true; simp at h2 ⊢; exact h _ h2
  | os N => intro h1; have h2 : ns.contains N.r = true := h1; show ns'.contains (gOf gl N.r) = true; simp at h2 ⊢; exact h _ h2
  | oe N st k j => intro h1; have h2 : ns.contains N.r = true := h1; show ns'.contains (gOf gl N.r) = true; simp at h2 ⊢; exact h _ h2
  | ow e n st cell ih => exact fun h i j hi hj => ih i j (h i j hi hj)
  | _ => exact fun h => h
theorem withinAll_at {ns : List Nat} : ∀ {σ : List (Nat × Blk)} {L : Nat} {y : Blk}, withinAll ns σ → lkx σ L = some y → y.within ns := by
  intro σ
  induction σ with
  | nil => intro L y _ h; cases h
  | cons p l ih =>
    intro L y hn h
    unfold lkx at h
    cases hb : Nat.beq p.1 L with
    | true => rw [hb] at h; cases h; exact hn.1
    | false => rw [hb] at h; exact ih hn.2 h
theorem RetOk.named {s : St} {x : AV} {gl : List (Nat × Nat)} {nw : Bool} {r : AV} {σ : List (Nat × Blk)} (h : RetOk s x gl nw r σ) (M : Nm) (y : Blk) (N : Nm) (hM : AtL (lkx σ) M y) (hN : y.has N) : (lkx σ N.r).isSome = true := by
  obtain ⟨y0, k1, k2⟩ := hM
  exact names_stOf (withinB_has (within_at (withinAll_at h.within.2 k1) k2) hN)
theorem RetOk.namedR {s : St} {x : AV} {gl : List (Nat × Nat)} {nw : Bool} {r : AV} {σ : List (Nat × Blk)} (h : RetOk s x gl nw r σ) (N : Nm) (hN : r.has N) : (lkx σ N.r).isSome = true := names_stOf (within_has h.within.1 hN)
theorem Fn_of {f : Nat} {nw : Bool} {fn : Func} {c : Code} {args r : AV} {σ σ' : List (Nat × Blk)} (hτ : TyOk P τ) (hf : P.funcs[f]? = some fn) (hn : (fn.name == "runtime.NumGoroutine") = false) (hb : fn.body = some c) (hl : args.len ≤ fn.ntmps)
    (hv : Nx (vc P τ c (retK τ fn.results.toList nw r σ') (St.of args σ fn.ntmps))) : Fn P f nw args σ r σ' := by
  refine ⟨⟨fn, c, hf, hn, hb⟩, fun E vs hP hr ha => ?_⟩
  refine calls_of_wp hf hb ?_
  have hlen : vs.length ≤ fn.ntmps := by rw [hr.len]; exact hl
  refine wp_mono ((vc_sound hτ c _ _ hv.out).run E _ E.w ⟨E.g, sim_entry hP hr ha hlen⟩) ?_
  have fin : ∀ a' w' s', (match resV τ s' fn.results.toList with | some x => x.force (retP s' nw r σ') | none => False) → Den E s' a' w' →
      a'.defers = [] ∧ ∃ v, (results fn a'.tmps).run P w' = .ok v w' ∧ ∃ v' γ, Ending.returned v = .returned v' ∧ Fr E.b E.w w' ∧ Post E nw w' σ' γ ∧ Reps w' (E.ow (ownL σ' γ)) γ r .o [v'] ∧ (nw = true → r.new) ∧ ∀ N, r.has N → ∃ x, AtL (lkx σ') N x := by
    intro a' w' s' hK hd
    obtain ⟨γ, hs⟩ := hd
    split at hK
    · rename_i x hx
      rw [force_eq] at hK
      obtain ⟨gl, hok⟩ := hK
      obtain ⟨v, h1, h2, h3⟩ := resV_sound (P := P) hτ hs hx
      obtain ⟨γ', hS, hR, hLv⟩ := hok.le.sim' hs
      have hchk := hok.chk
      simp only [Bool.and_eq_true] at hchk
      obtain ⟨hnd, hlo⟩ := hchk
      -- the contract's names
      have atT : ∀ M y, AtL (lkx σ') M y → (⟨[], gSt gl σ', s'.n⟩ : St).at (M.rn (gN gl)) (y.rn (gN gl)) := by
        rintro M y ⟨x0, k1, k2⟩
        have k3 := gSt_lkb hnd k1
        refine ⟨x0.rn (gN gl), ?_, ?_⟩
        · show lkb (gSt gl σ') (gN gl M.r).r = _
          exact k3
        · show (x0.rn (gN gl)).At ((gN gl M.r).p ++ M.p) _
          exact at_rn.2 ⟨y, k2, rfl⟩
      have injM : ∀ M M' y y', AtL (lkx σ') M y → AtL (lkx σ') M' y' → M.rn (gN gl) = M'.rn (gN gl) → M = M' := by
        rintro ⟨m, p⟩ ⟨m', p'⟩ y y' ⟨x0, k1, _⟩ ⟨x0', k1', _⟩ e
        have e1 : gOf gl m = gOf gl m' := congrArg Nm.r e
        have e2 : p = p' := by have := congrArg Nm.p e; simpa [Nm.rn, gN] using this
        have e3 := ndN_spec hnd k1 k1' e1
        subst e2
        have e4 : m = m' := e3
        rw [e4]
      have sub : ∀ b, ownL σ' (fun N => γ' (N.rn (gN gl))) b → (⟨[], gSt gl σ', s'.n⟩ : St).own γ' b := fun b ⟨M, y, hM, hb⟩ => ⟨_, _, atT M y hM, hb⟩
      have K : Keeps w' w' (E.ow ((⟨[], gSt gl σ', s'.n⟩ : St).own γ')) (E.ow (ownL σ' (fun N => γ' (N.rn (gN gl))))) := ⟨Nat.le_refl _, fun _ _ _ _ => rfl, fun f b _ h4 h5 => h4 (h5.imp (sub b) id)⟩
      have val := hR x _ [v] hok.val h3 h2
      -- names that are live
      have live' : ∀ N : Nm, (⟨[], gSt gl σ', s'.n⟩ : St).lv (N.rn (gN gl)) → (lkx σ' N.r).isSome = true → ∃ z, AtL (lkx σ') N z := by
        rintro N ⟨z, x0, k1, k2⟩ hsome
        obtain ⟨y0, hy0⟩ := Option.isSome_iff_exists.1 hsome
        have k3 := gSt_lkb hnd hy0
        have k1' : lkb (gSt gl σ') (gOf gl N.r) = some x0 := k1
        rw [k3] at k1'
        cases k1'
        have k2' : (y0.rn (gN gl)).At N.p z := k2
        obtain ⟨y, hy, _⟩ := at_rn.1 k2'
        exact ⟨y, y0, hy0, hy⟩
      refine ⟨hs.defers, v, h1, v, fun N => γ' (N.rn (gN gl)), rfl, hs.fr, ?_, (Reps.rn.1 val).keep K, fun h => (hok.new h).1, ?_⟩
      · refine ⟨fun N x hN => ⟨?_, fun h => ?_⟩, fun N x bk hN hb => hS.mine _ _ bk (atT N x hN) hb, fun N M x y bk hN hM hb hc => injM N M x y hN hM (hS.inj _ _ _ _ bk (atT N x hN) (atT M y hM) hb hc), fun M x N hM hN => ?_, fun L x hL hx => ?_⟩
        · exact (BlkOk.rn.1 (hS.blks _ _ (atT N x hN))).keep K rfl (fun _ _ => rfl) (fun _ _ _ _ _ _ _ _ => rfl) (fun _ _ => rfl)
        · obtain ⟨x0, k1, k2⟩ := hN
          exact new_at (newAll_at (hok.new h).2 k1) k2
        · have hlv := hS.wf.blk _ _ (N.rn (gN gl)) (atT M x hM) (hasB_rn.2 ⟨N, hN, rfl⟩)
          exact live' N hlv (hok.named M x N hM hN)
        · show γ' ((rt L).rn (gN gl)) = E.g (rt L)
          have e : (rt L).rn (gN gl) = rt L := by
            rw [rn_rt]; show rt (gOf gl L) = rt L; rw [lowOk_spec hlo hL hx]
          have hlv : (⟨[], gSt gl σ', s'.n⟩ : St).lv (rt L) := by
            have := atT (rt L) x ⟨x, hx, rfl⟩
            rw [e] at this; exact ⟨_, this⟩
          rw [e]; exact hS.hd L hL hlv
      · intro N hN
        have hlv := hLv x _ hok.val h3 (within_rn (fun L hL => names_gSt hL) hok.within.1) (N.rn (gN gl)) (has_rn.2 ⟨N, hN, rfl⟩)
        exact live' N hlv (hok.namedR N hN)
    · exact hK.elim
  rintro e a' w' ⟨s', hK, hd⟩
  cases e with
  | normal => exact fin a' w' s' hK hd
  | ret => exact fin a' w' s' hK hd
  | _ => exact hK.elim
end
end Go.Proofs.Ytbncmiglhjfcdaa
