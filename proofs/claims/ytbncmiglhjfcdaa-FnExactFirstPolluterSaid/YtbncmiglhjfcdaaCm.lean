/-
  What a caller shows and lends to a callee serves.
-/
import Derived.Test.YtbncmiglhjfcdaaCl
namespace Go.Proofs.Ytbncmiglhjfcdaa
open Go.RowKit
set_option linter.unusedVariables false

def md (ro : Bool) : Md := if ro then .r false else .o
theorem md_fr (ro : Bool) : (md ro).fr false = false := by cases ro <;> rfl

section
variable {E : Ent0} {w : World} {s : St} {act : Act} {γ : Nm → Value} {ns : List Nm} {vw : Bool} {own0 : Bool → Nat → Prop} {γ0 : Nm → Value}

/-- What an argument must do. -/
def Serves (w : World) (E : Ent0) (s : St) (γ : Nm → Value) (ns : List Nm) (own0 : Bool → Nat → Prop) (γ0 : Nm → Value) (ro : Bool) (a a' : AV) : Prop :=
  (∀ m vs, Reps w (E.ow (s.own γ)) γ a m vs → Reps w own0 γ0 a' (md ro) vs) ∧
  (ro = true → ∀ N i j y, a.sub = some y → s.at (Nm.kid N i j) y → avoid ns N → Reps w own0 γ0 a' (md ro) [γ (N.kid i j)])

theorem top_of {a : AV} {m m' : Md} {vs : List Value} (h : Reps w (E.ow (s.own γ)) γ a m vs) (hl : a.len = 1) : Reps w own0 γ0 .top m' vs := by
  have := h.len
  rw [hl] at this
  match vs, this with
  | [v], _ => exact ⟨v, rfl⟩
theorem own_slice (h : Sim E s act w γ) {N : Nm} {e : TypeId} {c : Ct} (hN : s.at N (.row e c)) : ∃ A cap, γ N = .slice A c.len cap ∧ c.len ≤ cap ∧ (0 < c.len → ∃ bk o, A = some ⟨bk, o, none⟩ ∧ bk < w.heap.size ∧ blkOf (γ N) = some bk ∧
    ∀ k j, k < c.len → j < c.st → ∃ u, w.cell? ⟨bk, o + (k * c.st + j), none⟩ = some u ∧ u.oneCell' = true ∧ CellR w (E.ow (s.own γ)) γ N k j (c.cell k j) u) := by
  rcases h.blks N _ hN with ⟨h0, A, e1⟩ | ⟨bk, o, cap, us, e1, hp, hc, h2, h3, h4⟩
  · exact ⟨A, 0, by rw [e1, h0], by omega, fun hn => by omega⟩
  · refine ⟨_, cap, e1, hc, fun hn => ⟨bk, o, rfl, heap_lt h2, by rw [e1, blkOf_slice hp], fun k j hk hj => ?_⟩⟩
    obtain ⟨u, h5, ho, h6⟩ := h4 k j hk hj
    exact ⟨u, by rw [cell_heap h2]; exact h5, ho, h6⟩
theorem sub_cell_none {own : Bool → Nat → Prop} {a : AV} {m : Md} {vs : List Value} (h : Reps w own γ a m vs) : a.sub = none := by
  cases a <;> first | rfl | exact h.elim

theorem argS_sound (h : Sim E s act w γ) {s0 : St} (hag : ∀ N x, s.lv N → s0.blk N = some x → s.blk N = some x) (hγ : ∀ M, γ0 M = γ (M.rn (lend ns))) (hO : ∀ b f, b < w.heap.size → ¬ E.ow (s.own γ) f b → ¬ own0 false b)
    (hV : vw = true → ∀ N x bk, s.at N x → avoid ns N → blkOf (γ N) = some bk → ¬ own0 false bk) {dp : AV → AV → Prop} (hdp : ∀ a a', dp a a' → s.live a → Serves w E s γ ns own0 γ0 true a a') :
    ∀ (a : AV) (ro : Bool) (a' : AV), argS s0 ns vw dp a ro a' → s.live a → Serves w E s γ ns own0 γ0 ro a a' := by
  have cellS : ∀ {N : Nm} {i j : Nat} {a a' : AV} {u : Value}, Serves w E s γ ns own0 γ0 true a a' → CellR w (E.ow (s.own γ)) γ N i j a u → (∀ y, a.sub = some y → s.at (N.kid i j) y) → avoid ns N → Reps w own0 γ0 a' (.r false) [u] := by
    intro N i j a a' u hs hc hy hav
    cases ha : a.sub with
    | none => exact hs.1 _ _ (hc.rep ha)
    | some y => rw [hc.own ha]; exact hs.2 rfl N i j y ha (hy y ha) hav
  intro a
  induction a with
  | cons a l iha ihl =>
    intro ro a' ha hl
    unfold argS at ha
    split at ha
    · obtain ⟨h1, h2⟩ := ha
      refine ⟨fun m vs ⟨v, us, e, k1, k2⟩ => ⟨v, us, e, (iha ro _ h1 (fun N hN => hl N (.inl hN))).1 m _ k1, (ihl ro _ h2 (fun N hN => hl N (.inr hN))).1 m _ k2⟩, fun _ N i j y hy => by cases hy⟩
    · exact ha.elim
  | agg l ih =>
    intro ro a' ha hl
    unfold argS at ha
    split at ha
    · exact ⟨fun m vs ⟨us, e, k1⟩ => ⟨us, e, (ih ro _ ha hl).1 m _ k1⟩, fun _ N i j y hy => by cases hy⟩
    · exact ⟨fun m vs k => top_of k rfl, fun _ N i j y hy => by cases hy⟩
    · exact ha.elim
  | tup l ih =>
    intro ro a' ha hl
    unfold argS at ha
    split at ha
    · exact ⟨fun m vs ⟨us, e, k1⟩ => ⟨us, e, (ih ro _ ha hl).1 m _ k1⟩, fun _ N i j y hy => by cases hy⟩
    · exact ⟨fun m vs k => top_of k rfl, fun _ N i j y hy => by cases hy⟩
    · exact ha.elim
  | fn f l ih =>
    intro ro a' ha hl
    unfold argS at ha
    split at ha
    · obtain ⟨rfl, ha⟩ := ha
      exact ⟨fun m vs ⟨us, e, k1⟩ => ⟨us, e, (ih ro _ ha hl).1 m _ k1⟩, fun _ N i j y hy => by cases hy⟩
    · exact ⟨fun m vs k => top_of k rfl, fun _ N i j y hy => by cases hy⟩
    · exact ha.elim
  | nil =>
    intro ro a' ha hl
    unfold argS at ha
    split at ha
    · exact ⟨fun m vs k => k, fun _ N i j y hy => by cases hy⟩
    · exact ha.elim
  | int k x =>
    intro ro a' ha hl
    unfold argS at ha
    split at ha
    · obtain ⟨rfl, rfl⟩ := ha; exact ⟨fun m vs k => k, fun _ N i j y hy => by cases hy⟩
    · exact ⟨fun m vs k => top_of k rfl, fun _ N i j y hy => by cases hy⟩
    · exact ha.elim
  | b x =>
    intro ro a' ha hl
    unfold argS at ha
    split at ha
    · subst ha; exact ⟨fun m vs k => k, fun _ N i j y hy => by cases hy⟩
    · subst ha; exact ⟨fun m vs k => k, fun _ N i j y hy => by cases hy⟩
    · subst ha; exact ⟨fun m vs k => k, fun _ N i j y hy => by cases hy⟩
    · exact ⟨fun m vs k => top_of k rfl, fun _ N i j y hy => by cases hy⟩
    · exact ha.elim
  | tt =>
    intro ro a' ha hl
    unfold argS at ha
    split at ha
    · subst ha; exact ⟨fun m vs k => k, fun _ N i j y hy => by cases hy⟩
    · exact ⟨fun m vs k => k, fun _ N i j y hy => by cases hy⟩
    · exact ⟨fun m vs k => top_of k rfl, fun _ N i j y hy => by cases hy⟩
    · exact ha.elim
  | ff =>
    intro ro a' ha hl
    unfold argS at ha
    split at ha
    · subst ha; exact ⟨fun m vs k => k, fun _ N i j y hy => by cases hy⟩
    · exact ⟨fun m vs k => k, fun _ N i j y hy => by cases hy⟩
    · exact ⟨fun m vs k => top_of k rfl, fun _ N i j y hy => by cases hy⟩
    · exact ha.elim
  | s x =>
    intro ro a' ha hl
    unfold argS at ha
    split at ha
    · subst ha; exact ⟨fun m vs k => k, fun _ N i j y hy => by cases hy⟩
    · exact ⟨fun m vs k => top_of k rfl, fun _ N i j y hy => by cases hy⟩
    · exact ha.elim
  | c v =>
    intro ro a' ha hl
    unfold argS at ha
    split at ha
    · subst ha; exact ⟨fun m vs k => k, fun _ N i j y hy => by cases hy⟩
    · exact ⟨fun m vs k => top_of k rfl, fun _ N i j y hy => by cases hy⟩
    · exact ha.elim
  | top =>
    intro ro a' ha hl
    unfold argS at ha
    split at ha
    · exact ⟨fun m vs k => top_of k rfl, fun _ N i j y hy => by cases hy⟩
    · exact ha.elim
  | nl =>
    intro ro a' ha hl
    unfold argS at ha
    split at ha
    · exact ⟨fun m vs k => k, fun _ N i j y hy => by cases hy⟩
    · exact ⟨fun m vs k => ⟨none, k⟩, fun _ N i j y hy => by cases hy⟩
    · obtain ⟨rfl, rfl⟩ := ha; exact ⟨fun m vs k => ⟨none, 0, k, Nat.le_refl _, fun h => by cases h⟩, fun _ N i j y hy => by cases hy⟩
    · obtain ⟨rfl, rfl⟩ := ha; exact ⟨fun m vs k => ⟨none, 0, k, Nat.le_refl _, fun h => by cases h⟩, fun _ N i j y hy => by cases hy⟩
    · exact ⟨fun m vs k => top_of k rfl, fun _ N i j y hy => by cases hy⟩
    · exact ha.elim
  | e0 =>
    intro ro a' ha hl
    unfold argS at ha
    split at ha
    · exact ⟨fun m vs k => k, fun _ N i j y hy => by cases hy⟩
    · obtain ⟨rfl, rfl⟩ := ha; exact ⟨fun m vs ⟨A, k⟩ => ⟨A, 0, k, Nat.le_refl _, fun h => by cases h⟩, fun _ N i j y hy => by cases hy⟩
    · obtain ⟨rfl, rfl⟩ := ha; exact ⟨fun m vs ⟨A, k⟩ => ⟨A, 0, k, Nat.le_refl _, fun h => by cases h⟩, fun _ N i j y hy => by cases hy⟩
    · exact ⟨fun m vs k => top_of k rfl, fun _ N i j y hy => by cases hy⟩
    · exact ha.elim
  | ri f k xs =>
    intro ro a' ha hl
    unfold argS at ha
    split at ha
    · obtain ⟨rfl, rfl, rfl⟩ := ha
      refine ⟨fun m vs ⟨A, cap, e, hc, k1⟩ => ⟨A, cap, e, hc, fun hn => ?_⟩, fun _ N i j y hy => by cases hy⟩
      obtain ⟨bk, o, e1, k2, k3, k4⟩ := k1 hn
      exact ⟨bk, o, e1, k2, by rw [md_fr]; exact hO bk _ k2 k3, k4⟩
    · obtain ⟨rfl, rfl, rfl, hcell⟩ := ha
      refine ⟨fun m vs ⟨A, cap, e, hc, k1⟩ => ⟨A, cap, e, hc, fun hn => ?_⟩, fun _ N i j y hy => by cases hy⟩
      obtain ⟨bk, o, e1, k2, k3, k4⟩ := k1 hn
      refine ⟨bk, o, e1, k2, by rw [md_fr]; exact hO bk _ k2 k3, fun i j hi hj => ?_⟩
      obtain rfl : j = 0 := by omega
      exact ⟨_, by rw [Nat.mul_one, Nat.add_zero]; exact k4 i hi, rfl, by rw [hcell i hi]; rfl⟩
    · exact ⟨fun m vs k => top_of k rfl, fun _ N i j y hy => by cases hy⟩
    · exact ha.elim
  | rs f n st cell ih =>
    intro ro a' ha hl
    unfold argS at ha
    split at ha
    · obtain ⟨rfl, rfl, rfl, hcell⟩ := ha
      refine ⟨fun m vs ⟨A, cap, e, hc, k1⟩ => ⟨A, cap, e, hc, fun hn => ?_⟩, fun _ N i j y hy => by cases hy⟩
      obtain ⟨bk, o, e1, k2, k3, k4⟩ := k1 hn
      refine ⟨bk, o, e1, k2, by rw [md_fr]; exact hO bk _ k2 k3, fun i j hi hj => ?_⟩
      obtain ⟨u, k5, ho, k6⟩ := k4 i j hi hj
      refine ⟨u, k5, ho, ?_⟩
      rw [md_fr]
      exact (ih i j true _ (hcell i j hi hj) (fun N hN => absurd hN k6.has_ro)).1 _ _ k6
    · exact ⟨fun m vs k => top_of k rfl, fun _ N i j y hy => by cases hy⟩
    · exact ha.elim
  | rp f n st cell i0 j0 ih =>
    intro ro a' ha hl
    unfold argS at ha
    split at ha
    · obtain ⟨rfl, rfl, rfl, rfl, rfl, hcell⟩ := ha
      refine ⟨fun m vs ⟨bk, o, e1, k0, k2, k3, k4⟩ => ⟨bk, o, e1, k0, k2, by rw [md_fr]; exact hO bk _ k2 k3, fun i j hi hj => ?_⟩, fun _ N i j y hy => by cases hy⟩
      obtain ⟨u, k5, ho, k6⟩ := k4 i j hi hj
      refine ⟨u, k5, ho, ?_⟩
      rw [md_fr]
      exact (ih i j true _ (hcell i j hi hj) (fun N hN => absurd hN k6.has_ro)).1 _ _ k6
    · exact ⟨fun m vs k => top_of k rfl, fun _ N i j y hy => by cases hy⟩
    · exact ha.elim
  | op N j =>
    intro ro a' ha hl
    unfold argS at ha
    split at ha
    · obtain ⟨rfl, rfl, rfl, hlt⟩ := ha
      exact ⟨fun m vs ⟨_, e, k⟩ => ⟨rfl, by rw [hγ]; exact e, by rw [hγ]; exact k⟩, fun h => by cases h⟩
    · obtain ⟨hv, rfl, hav, ha⟩ := ha
      split at ha
      · rename_i l hb
        obtain ⟨rfl, rfl, rfl, rfl, hcell⟩ := ha
        have hN := St.lv_at (hl N rfl) (hag N _ (hl N rfl) hb)
        obtain ⟨bk, us, ty, e, h1, ho, h2⟩ := h.blks _ _ hN
        refine ⟨fun m vs ⟨_, e1, _⟩ => ?_, fun _ N i j y hy => by cases hy⟩
        refine ⟨bk, 0, by rw [e1, e]; simp [ptrAt], by omega, heap_lt h1, by rw [md_fr]; exact hV hv N _ bk hN hav (by rw [e]; rfl), fun k i hk hi => ?_⟩
        obtain rfl : k = 0 := by omega
        obtain ⟨u, h4, h5⟩ := h2.nth hi
        refine ⟨u, by rw [cell_heap h1]; simpa using h4, ho u (List.mem_of_getElem? h4), ?_⟩
        rw [md_fr]
        exact (hdp _ _ (hcell i hi) (fun M hM => h.wf.blk N _ M hN (has_nth hM))).1 _ _ h5
      · exact ha.elim
    · exact ⟨fun m vs k => top_of k rfl, fun _ N i j y hy => by cases hy⟩
    · exact ha.elim
  | os N =>
    intro ro a' ha hl
    unfold argS at ha
    split at ha
    · obtain ⟨rfl, rfl, hlt⟩ := ha
      exact ⟨fun m vs ⟨_, e⟩ => ⟨rfl, by rw [hγ]; exact e⟩, fun h => by cases h⟩
    · obtain ⟨hv, rfl, hav, ha⟩ := ha
      split at ha
      · rename_i e1 q ys hb
        obtain ⟨rfl, rfl⟩ := ha
        have hN := St.lv_at (hl N rfl) (hag N _ (hl N rfl) hb)
        obtain ⟨A, cap, h1, h2, h3⟩ := own_slice h hN
        refine ⟨fun m vs ⟨_, e⟩ => ⟨A, cap, by rw [e, h1]; rfl, h2, fun hn => ?_⟩, fun _ N i j y hy => by cases hy⟩
        obtain ⟨bk, o, k1, k2, k3, k4⟩ := h3 hn
        refine ⟨bk, o, k1, k2, by rw [md_fr]; exact hV hv N _ bk hN hav k3, fun k hk => ?_⟩
        obtain ⟨u, k5, _, k6⟩ := k4 k 0 hk (by exact Nat.one_pos)
        have k7 : u = .int q (ys.getD k 0) := by simpa [Reps, Ct.cell, ci] using k6.rep rfl
        rw [← k7]; simpa [Ct.st] using k5
      · exact ha.elim
    · obtain ⟨hv, rfl, hav, ha⟩ := ha
      split at ha
      · rename_i e1 c hb
        obtain ⟨rfl, rfl, hcell⟩ := ha
        have hN := St.lv_at (hl N rfl) (hag N _ (hl N rfl) hb)
        obtain ⟨A, cap, h1, h2, h3⟩ := own_slice h hN
        refine ⟨fun m vs ⟨_, e⟩ => ⟨A, cap, by rw [e, h1], h2, fun hn => ?_⟩, fun _ N i j y hy => by cases hy⟩
        obtain ⟨bk, o, k1, k2, k3, k4⟩ := h3 hn
        refine ⟨bk, o, k1, k2, by rw [md_fr]; exact hV hv N _ bk hN hav k3, fun i j hi hj => ?_⟩
        obtain ⟨u, k5, ho, k6⟩ := k4 i j hi hj
        refine ⟨u, k5, ho, ?_⟩
        rw [md_fr]
        exact cellS (hdp _ _ (hcell i j hi hj) (fun M hM => h.wf.blk N _ M hN ⟨i, j, hi, hj, hM⟩)) k6 (fun y hy => at_kid hN hi hj hy) hav
      · exact ha.elim
    · exact ⟨fun m vs k => top_of k rfl, fun _ N i j y hy => by cases hy⟩
    · exact ha.elim
  | om N =>
    intro ro a' ha hl
    unfold argS at ha
    split at ha
    · obtain ⟨rfl, rfl, hlt⟩ := ha
      exact ⟨fun m vs ⟨_, e⟩ => ⟨rfl, by rw [hγ]; exact e⟩, fun h => by cases h⟩
    · exact ⟨fun m vs k => top_of k rfl, fun _ N i j y hy => by cases hy⟩
    · exact ha.elim
  | oe N st k j =>
    intro ro a' ha hl
    unfold argS at ha
    split at ha
    · obtain ⟨rfl, rfl, rfl, rfl, rfl, hlt⟩ := ha
      exact ⟨fun m vs ⟨_, e, k⟩ => ⟨rfl, by rw [hγ]; exact e, by rw [hγ]; exact k⟩, fun h => by cases h⟩
    · exact ⟨fun m vs k => top_of k rfl, fun _ N i j y hy => by cases hy⟩
    · exact ha.elim
  | oi e k xs =>
    intro ro a' ha hl
    refine ⟨fun m vs k => k.elim, fun hr N i j y hy hN hav => ?_⟩
    cases hy
    unfold argS at ha
    split at ha
    · exact absurd (hr.symm.trans ha.1) (by simp)
    · obtain ⟨_, hv, rfl, rfl, rfl⟩ := ha
      obtain ⟨A, cap, h1, h2, h3⟩ := own_slice h hN
      refine ⟨A, cap, by rw [h1]; rfl, h2, fun hn => ?_⟩
      obtain ⟨bk, o, k1, k2, k3, k4⟩ := h3 hn
      refine ⟨bk, o, k1, k2, by rw [md_fr]; exact hV hv _ _ bk hN hav k3, fun k' hk => ?_⟩
      obtain ⟨u, k5, _, k6⟩ := k4 k' 0 hk (by exact Nat.one_pos)
      have k7 : u = .int k (xs.getD k' 0) := by simpa [Reps, Ct.cell, ci] using k6.rep rfl
      rw [← k7]; simpa [Ct.st] using k5
    · exact ⟨_, rfl⟩
    · exact ha.elim
  | ow e n st cell ih =>
    intro ro a' ha hl
    refine ⟨fun m vs k => k.elim, fun hr N i j y hy hN hav => ?_⟩
    cases hy
    unfold argS at ha
    split at ha
    · exact absurd (hr.symm.trans ha.1) (by simp)
    · obtain ⟨_, hv, rfl, rfl, rfl, hcell⟩ := ha
      obtain ⟨A, cap, h1, h2, h3⟩ := own_slice h hN
      refine ⟨A, cap, by rw [h1]; rfl, h2, fun hn => ?_⟩
      obtain ⟨bk, o, k1, k2, k3, k4⟩ := h3 hn
      refine ⟨bk, o, k1, k2, by rw [md_fr]; exact hV hv _ _ bk hN hav k3, fun i' j' hi hj => ?_⟩
      obtain ⟨u, k5, ho, k6⟩ := k4 i' j' hi hj
      refine ⟨u, k5, ho, ?_⟩
      rw [md_fr]
      exact cellS (ih i' j' true _ (hcell i' j' hi hj) (fun M hM => h.wf.blk _ _ M hN ⟨i', j', hi, hj, hM⟩)) k6 (fun y hy => at_kid hN hi hj hy) hav
    · exact ⟨_, rfl⟩
    · exact ha.elim

theorem arg_sound (h : Sim E s act w γ) {s0 : St} (hag : ∀ N x, s.lv N → s0.blk N = some x → s.blk N = some x) (hγ : ∀ M, γ0 M = γ (M.rn (lend ns))) (hO : ∀ b f, b < w.heap.size → ¬ E.ow (s.own γ) f b → ¬ own0 false b)
    (hV : vw = true → ∀ N x bk, s.at N x → avoid ns N → blkOf (γ N) = some bk → ¬ own0 false bk) : ∀ (n : Nat) (a : AV) (ro : Bool) (a' : AV), arg s0 ns vw n ro a a' → s.live a → Serves w E s γ ns own0 γ0 ro a a' := by
  intro n
  induction n with
  | zero => exact argS_sound h hag hγ hO hV (fun _ _ h => h.elim)
  | succ n ih => exact argS_sound h hag hγ hO hV (fun a a' ha hl => ih a true a' ha hl)

/-- Names of what the callee says. -/
theorem argS_has {dp : AV → AV → Prop} : ∀ (a : AV) (ro : Bool) (a' : AV), argS s ns vw dp a ro a' → ∀ M, a'.has M → M.r < ns.length ∧ a.has (M.rn (lend ns)) := by
  intro a
  induction a with
  | cons a l iha ihl =>
    intro ro a' ha M hM
    unfold argS at ha
    split at ha
    · rcases hM with hM | hM
      · exact ⟨(iha _ _ ha.1 M hM).1, .inl (iha _ _ ha.1 M hM).2⟩
      · exact ⟨(ihl _ _ ha.2 M hM).1, .inr (ihl _ _ ha.2 M hM).2⟩
    · exact ha.elim
  | agg l ih => intro ro a' ha M hM; unfold argS at ha; split at ha <;> first | exact ih _ _ ha M hM | exact hM.elim | exact ha.elim
  | tup l ih => intro ro a' ha M hM; unfold argS at ha; split at ha <;> first | exact ih _ _ ha M hM | exact hM.elim | exact ha.elim
  | fn f l ih => intro ro a' ha M hM; unfold argS at ha; split at ha <;> first | exact ih _ _ ha.2 M hM | exact hM.elim | exact ha.elim
  | op N j =>
    intro ro a' ha M hM; unfold argS at ha
    split at ha
    · obtain ⟨_, _, rfl, hlt⟩ := ha; cases hM; exact ⟨hlt, rfl⟩
    · exact hM.elim
    · exact hM.elim
    · exact ha.elim
  | os N =>
    intro ro a' ha M hM; unfold argS at ha
    split at ha
    · obtain ⟨_, rfl, hlt⟩ := ha; cases hM; exact ⟨hlt, rfl⟩
    · exact hM.elim
    · exact hM.elim
    · exact hM.elim
    · exact ha.elim
  | om N =>
    intro ro a' ha M hM; unfold argS at ha
    split at ha
    · obtain ⟨_, rfl, hlt⟩ := ha; cases hM; exact ⟨hlt, rfl⟩
    · exact hM.elim
    · exact ha.elim
  | oe N st k j =>
    intro ro a' ha M hM; unfold argS at ha
    split at ha
    · obtain ⟨_, _, _, _, rfl, hlt⟩ := ha; cases hM; exact ⟨hlt, rfl⟩
    · exact hM.elim
    · exact ha.elim
  | _ => intro ro a' ha M hM; unfold argS at ha; split at ha <;> first | exact hM.elim | exact ha.elim
theorem arg_has {n : Nat} {a : AV} {ro : Bool} {a' : AV} (h : arg s ns vw n ro a a') : ∀ M, a'.has M → M.r < ns.length ∧ a.has (M.rn (lend ns)) := by
  cases n <;> exact argS_has a ro a' h
/-- Slices of one's own in the cells of what is lent. -/
theorem arg_sub {n : Nat} {a a' : AV} (h : arg s ns vw n false a a') : (a.sub.isSome = a'.sub.isSome) ∧ ∀ y y', a.sub = some y → a'.sub = some y' → ∃ e c c', y = .row e c ∧ y' = .row e c' ∧ c.len = c'.len ∧ c.st = c'.st ∧ ∀ i j, i < c.len → j < c.st → arg s ns vw n false (c.cell i j) (c'.cell i j) := by
  have key : ∀ {dp : AV → AV → Prop}, argS s ns vw dp a false a' → (a.sub.isSome = a'.sub.isSome) ∧ ∀ y y', a.sub = some y → a'.sub = some y' → ∃ e c c', y = .row e c ∧ y' = .row e c' ∧ c.len = c'.len ∧ c.st = c'.st ∧ ∀ i j, i < c.len → j < c.st → argS s ns vw dp (c.cell i j) false (c'.cell i j) := by
    intro dp h
    cases a with
    | oi e k xs =>
      unfold argS at h
      split at h
      · obtain ⟨_, rfl, rfl, rfl⟩ := h
        refine ⟨rfl, fun y y' h1 h2 => ?_⟩
        cases h1; cases h2
        exact ⟨e, _, _, rfl, rfl, rfl, rfl, fun i j _ _ => ⟨rfl, rfl⟩⟩
      · cases h.1
      · cases h
      · exact h.elim
    | ow e n st cell =>
      unfold argS at h
      split at h
      · obtain ⟨_, rfl, rfl, rfl, hc⟩ := h
        refine ⟨rfl, fun y y' h1 h2 => ?_⟩
        cases h1; cases h2
        exact ⟨e, _, _, rfl, rfl, rfl, rfl, hc⟩
      · cases h.1
      · cases h
      · exact h.elim
    | _ =>
      unfold argS at h
      split at h <;> first | exact h.elim | exact ⟨rfl, fun y y' h1 => by cases h1⟩
  cases n <;> exact key h

theorem argB_sound (h : Sim E s act w γ) (hγ : ∀ M, γ0 M = γ (M.rn (lend ns))) (hO : ∀ b f, b < w.heap.size → ¬ E.ow (s.own γ) f b → ¬ own0 false b)
    (hV : vw = true → ∀ N x bk, s.at N x → avoid ns N → blkOf (γ N) = some bk → ¬ own0 false bk) {M : Nm} {x y : Blk} (hx : s.at (M.rn (lend ns)) x) (ha : argB s ns vw x y) : BlkOk w own0 γ0 M y := by
  have hb := h.blks _ _ hx
  cases x with
  | box l =>
    simp only [argB] at ha
    split at ha
    · obtain ⟨bk, us, ty, e, h1, ho, h2⟩ := hb
      exact ⟨bk, us, ty, by rw [hγ]; exact e, h1, ho, (arg_sound h (fun _ _ _ e => e) hγ hO hV 3 _ _ _ ha (fun N hN => h.wf.blk _ _ N hx hN)).1 _ _ h2⟩
    · exact ha.elim
  | mp t m =>
    simp only [argB] at ha
    subst ha
    obtain ⟨r, es, clock, e, h1, h2⟩ := hb
    exact ⟨r, es, clock, by rw [hγ]; exact e, h1, h2⟩
  | row e c =>
    have rowok : ∀ c', c.len = c'.len → c.st = c'.st → (∀ i j, i < c.len → j < c.st → arg s ns vw 3 false (c.cell i j) (c'.cell i j)) → BlkOk w own0 γ0 M (.row e c') := by
      intro c' h1 h2 hc
      rcases hb with ⟨h0, A, e1⟩ | ⟨bk, o, cap, us, e1, hp, h3, h4, h5, h6⟩
      · exact .inl ⟨by omega, A, by rw [hγ]; exact e1⟩
      · refine .inr ⟨bk, o, cap, us, by rw [hγ, ← h1]; exact e1, hp, by omega, h4, by rw [← h2]; exact h5, fun i j hi hj => ?_⟩
        obtain ⟨u, h7, ho, h8⟩ := h6 i j (by omega) (by omega)
        refine ⟨u, by rw [← h2]; exact h7, ho, ?_⟩
        have hcij := hc i j (by omega) (by omega)
        obtain ⟨g1, g2⟩ := arg_sub hcij
        unfold CellR
        cases ha' : (c'.cell i j).sub with
        | none =>
          rw [ha'] at g1
          have hn : (c.cell i j).sub = none := by
            cases hs : (c.cell i j).sub with
            | none => rfl
            | some z => rw [hs] at g1; cases g1
          exact (arg_sound h (fun _ _ _ e => e) hγ hO hV 3 _ _ _ hcij (fun N hN => h.wf.blk _ _ N hx ⟨i, j, by omega, by omega, hN⟩)).1 _ _ (h8.rep hn)
        | some z =>
          rw [ha'] at g1
          cases hs : (c.cell i j).sub with
          | none => rw [hs] at g1; cases g1
          | some y => simp only; rw [h8.own hs, hγ, rn_kid]
    cases c with
    | ints k xs =>
      simp only [argB] at ha
      split at ha
      · obtain ⟨rfl, rfl, rfl⟩ := ha
        exact rowok _ rfl rfl (fun i j _ _ => ⟨rfl, rfl⟩)
      · exact ha.elim
    | bools xs =>
      simp only [argB] at ha
      split at ha
      · obtain ⟨rfl, rfl⟩ := ha
        exact rowok _ rfl rfl (fun i j _ _ => rfl)
      · exact ha.elim
    | tab n st cell =>
      simp only [argB] at ha
      split at ha
      · obtain ⟨rfl, rfl, rfl, hc⟩ := ha
        exact rowok _ rfl rfl hc
      · exact ha.elim
/-- What lies behind the cells of what is lent. -/
theorem argB_at : ∀ {p : List (Nat × Nat)} {x y y' : Blk}, argB s ns vw x y → y.At p y' → ∃ x', x.At p x' ∧ argB s ns vw x' y' := by
  intro p
  induction p with
  | nil => intro x y y' ha h; cases h; exact ⟨x, rfl, ha⟩
  | cons q p ih =>
    obtain ⟨i, j⟩ := q
    rintro x y y' ha ⟨e, c, z, rfl, h1, h2, h3, h4⟩
    cases x with
    | box l => simp only [argB] at ha
    | mp t m => simp only [argB] at ha; cases ha
    | row e1 c1 =>
      cases c1 with
      | ints k xs =>
        simp only [argB] at ha
        split at ha
        · rename_i heq; cases heq; cases h3
        · exact ha.elim
      | bools xs =>
        simp only [argB] at ha
        split at ha
        · rename_i heq; cases heq; cases h3
        · exact ha.elim
      | tab n st cell =>
        simp only [argB] at ha
        split at ha
        · rename_i e2 n2 st2 cell2 heq
          cases heq
          obtain ⟨rfl, rfl, rfl, hc⟩ := ha
          have hcij := hc i j h1 h2
          have h3' : (cell2 i j).sub = some z := h3
          cases ha : cell i j with
          | oi e5 k5 xs5 =>
            rw [ha] at hcij
            have hcij' : argS s ns vw (fun x y => arg s ns vw 2 true x y) (.oi e5 k5 xs5) false (cell2 i j) := hcij
            unfold argS at hcij'
            split at hcij'
            · rename_i heq2
              obtain ⟨_, rfl, rfl, rfl⟩ := hcij'
              rw [heq2] at h3'; cases h3'
              obtain ⟨x', h5, h6⟩ := ih (x := .row e5 (.ints k5 xs5)) (by simp [argB]) h4
              exact ⟨x', ⟨_, _, _, rfl, h1, h2, by show (cell i j).sub = _; rw [ha]; rfl, h5⟩, h6⟩
            · cases hcij'.1
            · cases hcij'
            · exact hcij'.elim
          | ow e5 n5 st5 cell5 =>
            rw [ha] at hcij
            have hcij' : argS s ns vw (fun x y => arg s ns vw 2 true x y) (.ow e5 n5 st5 cell5) false (cell2 i j) := hcij
            unfold argS at hcij'
            split at hcij'
            · rename_i heq2
              obtain ⟨_, rfl, rfl, rfl, hc5⟩ := hcij'
              rw [heq2] at h3'; cases h3'
              obtain ⟨x', h5, h6⟩ := ih (x := .row e5 (.tab n5 st5 cell5)) (by unfold argB; exact ⟨rfl, rfl, rfl, hc5⟩) h4
              exact ⟨x', ⟨_, _, _, rfl, h1, h2, by show (cell i j).sub = _; rw [ha]; rfl, h5⟩, h6⟩
            · cases hcij'.1
            · cases hcij'
            · exact hcij'.elim
          | _ =>
            have := (arg_sub hcij).1
            rw [ha, h3'] at this
            cases this
        · exact ha.elim
theorem argB_at2 : ∀ {p : List (Nat × Nat)} {x y x' : Blk}, argB s ns vw x y → x.At p x' → ∃ y', y.At p y' ∧ argB s ns vw x' y' := by
  intro p
  induction p with
  | nil => intro x y y' ha h; cases h; exact ⟨y, rfl, ha⟩
  | cons q p ih =>
    obtain ⟨i, j⟩ := q
    rintro x y x' ha ⟨e, c, z, rfl, h1, h2, h3, h4⟩
    cases c with
    | ints k xs => cases h3
    | bools xs => cases h3
    | tab n st cell =>
      simp only [argB] at ha
      split at ha
      · rename_i e2 n2 st2 cell2
        obtain ⟨rfl, rfl, rfl, hc⟩ := ha
        have hcij := hc i j h1 h2
        have h3' : (cell i j).sub = some z := h3
        cases ha : cell i j with
        | oi e5 k5 xs5 =>
          rw [ha] at hcij h3'
          cases h3'
          have hcij' : argS s ns vw (fun x y => arg s ns vw 2 true x y) (.oi e5 k5 xs5) false (cell2 i j) := hcij
          unfold argS at hcij'
          split at hcij'
          · rename_i heq2
            obtain ⟨_, rfl, rfl, rfl⟩ := hcij'
            obtain ⟨y', h5, h6⟩ := ih (y := .row e5 (.ints k5 xs5)) (by simp [argB]) h4
            exact ⟨y', ⟨_, _, _, rfl, h1, h2, by show (cell2 i j).sub = _; rw [heq2]; rfl, h5⟩, h6⟩
          · cases hcij'.1
          · cases hcij'
          · exact hcij'.elim
        | ow e5 n5 st5 cell5 =>
          rw [ha] at hcij h3'
          cases h3'
          have hcij' : argS s ns vw (fun x y => arg s ns vw 2 true x y) (.ow e5 n5 st5 cell5) false (cell2 i j) := hcij
          unfold argS at hcij'
          split at hcij'
          · rename_i e6 m6 st6 cell6 heq2
            obtain ⟨_, rfl, rfl, rfl, hc5⟩ := hcij'
            obtain ⟨y', h5, h6⟩ := ih (y := .row e5 (.tab n5 st5 cell6)) (by unfold argB; exact ⟨rfl, rfl, rfl, hc5⟩) h4
            exact ⟨y', ⟨_, _, _, rfl, h1, h2, by show (cell2 i j).sub = _; rw [heq2]; rfl, h5⟩, h6⟩
          · cases hcij'.1
          · cases hcij'
          · exact hcij'.elim
        | _ => rw [ha] at h3'; cases h3'
      · exact ha.elim
theorem argB_has {x y : Blk} (ha : argB s ns vw x y) : ∀ M, y.has M → M.r < ns.length ∧ x.has (M.rn (lend ns)) := by
  intro M hM
  cases x with
  | box l =>
    simp only [argB] at ha
    split at ha
    · exact arg_has ha M hM
    · exact ha.elim
  | mp t m => simp only [argB] at ha; subst ha; exact hM.elim
  | row e c =>
    cases c with
    | ints k xs =>
      simp only [argB] at ha
      split at ha
      · obtain ⟨k, j, _, _, h⟩ := hM; exact h.elim
      · exact ha.elim
    | bools xs =>
      simp only [argB] at ha
      split at ha
      · obtain ⟨k, j, _, _, h⟩ := hM; exact h.elim
      · exact ha.elim
    | tab n st cell =>
      simp only [argB] at ha
      split at ha
      · obtain ⟨rfl, rfl, rfl, hc⟩ := ha
        obtain ⟨k, j, hk, hj, h⟩ := hM
        obtain ⟨h1, h2⟩ := arg_has (hc k j hk hj) M h
        exact ⟨h1, k, j, hk, hj, h2⟩
      · exact ha.elim

theorem lends_at : ∀ {ns' : List Nm} {σ : List (Nat × Blk)} {k : Nat}, lends s ns vw k ns' σ → (∀ L y, lkx σ L = some y → ∃ i N x, L = k + i ∧ ns'[i]? = some N ∧ s.at N x ∧ argB s ns vw x y) ∧ (∀ i N, ns'[i]? = some N → (lkx σ (k + i)).isSome = true) := by
  intro ns'
  induction ns' with
  | nil => intro σ k h; cases σ with | nil => exact ⟨fun L y h => (by cases h), fun i N h => (by simp at h)⟩ | cons p σ => exact h.elim
  | cons N ns' ih =>
    intro σ k h
    cases σ with
    | nil => exact h.elim
    | cons p σ =>
      obtain ⟨h1, h2, h3, h4⟩ := h
      obtain ⟨i1, i2⟩ := ih h4
      refine ⟨fun L y hL => ?_, fun i N' hi => ?_⟩
      · unfold lkx at hL
        cases hb : Nat.beq p.1 L with
        | true =>
          rw [hb] at hL; cases hL
          have := Nat.eq_of_beq_eq_true hb
          cases hx : s.blk N with
          | none => rw [hx] at h3; exact h3.elim
          | some x => rw [hx] at h3; exact ⟨0, N, x, by omega, rfl, St.lv_at h2 hx, h3⟩
        | false =>
          rw [hb] at hL
          obtain ⟨i, N', x, e, h5, h6⟩ := i1 L y hL
          exact ⟨i + 1, N', x, by omega, by simpa using h5, h6⟩
      · cases i with
        | zero => simp [lkx, h1]
        | succ i =>
          have h5 := i2 i N' (by simpa using hi)
          unfold lkx
          cases hb : Nat.beq p.1 (k + (i + 1)) with
          | true => rfl
          | false => rw [show k + (i + 1) = k + 1 + i by omega]; exact h5
end
end Go.Proofs.Ytbncmiglhjfcdaa
