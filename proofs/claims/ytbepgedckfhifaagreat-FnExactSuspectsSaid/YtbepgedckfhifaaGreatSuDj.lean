/-
  A row of integers of one's own is only read from now on.
-/
import Derived.Test.YtbepgedckfhifaaGreatSuVC
namespace Go.Proofs.YtbepgedckfhifaaGreat
open Go.RowKit
set_option linter.unusedVariables false
def frA (L : Nat) (y : AV) : AV → AV
  | .os N => bif Nat.beq N.r L then (match N.p with | [] => y | _ :: _ => .top) else .os N
  | a => a.kill (atR L)
def St.frz (s : St) (L : Nat) : St :=
  match s.rblk L with
  | some (.row _ (.ints k xs)) => { ((s.kill (atR L)).setB L none) with slots := s.slots.map fun p => (p.1, frA L (.ri false k xs) p.2) }
  | _ => s
section
variable {E : Ent0} {w : World} {s : St} {act : Act} {γ : Nm → Value}
theorem lks_map {f : AV → AV} (hf : f .top = .top) : ∀ (l : List (Nat × AV)) (t : Nat), lks (l.map fun p => (p.1, f p.2)) t = f (lks l t)
  | [], t => hf.symm
  | p :: l, t => by
    simp only [List.map_cons, lks]
    cases Nat.beq p.1 t with
    | true => rfl
    | false => exact lks_map hf l t
theorem has_frA {L : Nat} {k : IntKind} {xs : List Int} {a : AV} {M : Nm} (h : (frA L (.ri false k xs) a).has M) : a.has M ∧ M.r ≠ L := by
  cases a with
  | os N =>
    have h : AV.has M (bif Nat.beq N.r L then (match N.p with | [] => .ri false k xs | _ :: _ => .top) else .os N) := h
    cases hb : Nat.beq N.r L with
    | true =>
      rw [hb] at h
      have h : AV.has M (match N.p with | [] => .ri false k xs | _ :: _ => .top) := h
      split at h
      · exact h.elim
      · exact h.elim
    | false =>
      rw [hb] at h
      have e : N = M := h
      subst e
      refine ⟨rfl, fun e => ?_⟩
      rw [e, Nat.beq_refl] at hb
      cases hb
  | _ => exact ⟨(has_kill h).1, atR_ne (has_kill h).2⟩
theorem ri_ofF {w : World} {own own' : Bool → Nat → Prop} {γ γ' : Nm → Value} {N : Nm} {T : TypeId} {k : IntKind} {xs : List Int} (h : BlkOk w own γ N (.row T (.ints k xs))) (hb : ∀ bk, blkOf (γ N) = some bk → bk < w.heap.size ∧ ¬ own' false bk) : Reps w own' γ' (.ri false k xs) .o [γ N] := by
  rcases h with ⟨h0, A, e⟩ | ⟨bk, o, cap, us, e, hp, hc, h1, h2, h3⟩
  · have h0 : xs.length = 0 := h0
    exact ⟨A, 0, by rw [e, h0], by omega, fun h => by omega⟩
  · have hc : xs.length ≤ cap := hc
    obtain ⟨g1, g2⟩ := hb bk (by rw [e, blkOf_slice hp])
    refine ⟨some ⟨bk, o, none⟩, cap, by rw [e]; rfl, hc, fun _ => ⟨bk, o, rfl, g1, g2, fun j hj => ?_⟩⟩
    obtain ⟨u, h4, h5, h6⟩ := h3 j 0 hj Nat.one_pos
    have h6 : [u] = [Value.int k (xs.getD j 0)] := h6.rep rfl
    rw [cell_heap h1, ← (List.cons.inj h6).1, ← h4]
    show us[o + j]? = us[o + (j * 1 + 0)]?
    rw [Nat.mul_one, Nat.add_zero]
theorem Sim.frz (h : Sim E s act w γ) {L : Nat} {e : TypeId} {k : IntKind} {xs : List Int} (hL : s.rblk L = some (.row e (.ints k xs))) : Sim E (s.frz L) act w γ := by
  have hLat : s.at (rt L) (.row e (.ints k xs)) := at_root.2 hL
  have es : s.frz L = { ((s.kill (atR L)).setB L none) with slots := s.slots.map fun p => (p.1, frA L (.ri false k xs) p.2) } := by unfold St.frz; rw [hL]
  have hat : ∀ {D z}, (s.frz L).at D z ↔ D.r ≠ L ∧ (s.kill (atR L)).at D z := fun {D z} => by rw [es]; exact at_setNone
  have hslot : ∀ t, (s.frz L).slot t = frA L (.ri false k xs) (s.slot t) := fun t => by rw [es]; exact lks_map rfl s.slots t
  have lv : ∀ {D}, s.lv D → D.r ≠ L → (s.frz L).lv D := fun ⟨z, hz⟩ hD => ⟨z.kill (atR L), hat.2 ⟨hD, of_kill.2 ⟨z, hz, rfl⟩⟩⟩
  have back : ∀ {D z}, (s.frz L).at D z → D.r ≠ L ∧ ∃ z0, s.at D z0 ∧ z = z0.kill (atR L) := fun hD => by
    obtain ⟨h1, h2⟩ := hat.1 hD
    obtain ⟨z0, h3, h4⟩ := of_kill.1 h2
    exact ⟨h1, z0, h3, h4⟩
  have pv : ∀ D x', (s.frz L).at D x' → ∀ bk, blkOf (γ D) = some bk → (w.heap.size ≤ bk ∧ bk < w.heap.size) ∨ s.own γ bk := fun D z hD bk hb => by
    obtain ⟨_, z0, h1, _⟩ := back hD
    exact .inr ⟨D, z0, h1, hb⟩
  have nown : ∀ bk, blkOf (γ (rt L)) = some bk → bk < w.heap.size ∧ ¬ E.ow ((s.frz L).own γ) false bk := by
    intro bk hb
    obtain ⟨g1, g2⟩ := h.mine _ _ bk hLat hb
    refine ⟨g1, ?_⟩
    rintro (⟨D, z, hD, hDb⟩ | hz | ⟨hf, _⟩)
    · obtain ⟨h1, z0, h2, _⟩ := back hD
      have := h.inj _ _ _ _ bk h2 hLat hDb hb
      exact h1 (by rw [this])
    · rcases g2 with h1 | h1
      · have := E.zlt bk hz; omega
      · exact E.zb bk hz h1
    · cases hf
  refine h.build (Step.same _ w) (by rw [es]; exact h.size) h.defers pv (fun D M u v bk hD hM hb hc => ?_) (fun hk t => ?_) (fun hk D z hD => ?_) ⟨fun t M hM => ?_, fun M z D hM hD => ?_⟩ (fun L' hL' hl => ?_)
  · obtain ⟨_, z0, h1, _⟩ := back hD
    obtain ⟨_, z1, h2, _⟩ := back hM
    exact h.inj _ _ _ _ bk h1 h2 hb hc
  · rw [hslot]
    have h1 := h.slots t
    generalize s.slot t = a at h1
    cases a with
    | os N =>
      show Reps _ _ _ (bif Nat.beq N.r L then (match N.p with | [] => .ri false k xs | _ :: _ => .top) else .os N) _ _
      cases hb : Nat.beq N.r L with
      | false => exact h1.keep hk
      | true =>
        obtain ⟨r, p⟩ := N
        obtain rfl := Nat.eq_of_beq_eq_true hb
        obtain ⟨_, ev⟩ := h1
        cases p with
        | nil => rw [ev]; exact ri_ofF (h.blks _ _ hLat) nown
        | cons q p => exact ⟨_, ev⟩
    | _ => exact (Reps.kill (Q := atR L) h1).keep hk
  · obtain ⟨_, z0, h2, rfl⟩ := back hD
    exact (h.blks D z0 h2).kill.keep hk rfl (fun _ _ => rfl) (fun _ _ _ _ _ _ _ _ => rfl) (fun _ _ => rfl)
  · rw [hslot] at hM
    obtain ⟨h1, h2⟩ := has_frA hM
    exact lv (h.wf.slot t M h1) h2
  · obtain ⟨_, z0, h2, rfl⟩ := back hM
    exact lv (h.wf.blk _ _ D h2 (hasB_kill hD).1) (atR_ne (hasB_kill hD).2)
  · obtain ⟨z, hz⟩ := hl
    obtain ⟨_, z0, h2, _⟩ := back hz
    exact h.hd L' hL' ⟨z0, h2⟩
theorem le_frz {L : Nat} {e : TypeId} {k : IntKind} {xs : List Int} (hL : s.rblk L = some (.row e (.ints k xs))) : s.le (s.frz L) := fun _ _ _ ⟨γ, hs⟩ => ⟨γ, hs.frz hL⟩
end
end Go.Proofs.YtbepgedckfhifaaGreat
