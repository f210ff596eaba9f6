/-
  The conditions under which a piece of code does what is said: statements, loops, functions.
-/
import Derived.Test.YtbncmiglhjfcdaaCv
namespace Go.Proofs.Ytbncmiglhjfcdaa
open Go.RowKit
set_option linter.unusedVariables false

section
variable {P : Program} {τ : List (Nat × TyI)} {E : Ent0} {w : World} {s : St} {a : Act} {γ : Nm → Value}

def PostK (E : Ent0) (K : Exit → St → Prop) (e : Exit) (a : Act) (w : World) : Prop := ∃ s, K e s ∧ Den E s a w
/-- From every frame and world of which the state tells the truth, the code comes to a state that K lets pass. -/
structure VC (P : Program) (c : Code) (K : Exit → St → Prop) (s : St) : Prop where
  run : ∀ E a w, Den E s a w → c.wp P (PostK E K) a w
def seqK (n : St → Prop) (K : Exit → St → Prop) : Exit → St → Prop
  | .normal, s => n s
  | e, s => K e s
def blockK (id : Nat) (K : Exit → St → Prop) : Exit → St → Prop
  | .exit i, s => bif Nat.beq i id then K .normal s else K (.exit i) s
  | e, s => K e s
def St.learn (s : St) (c : Operand) (x : AV) : St := match c with | .tmp t => s.put t x | _ => s
def vc (P : Program) (τ : List (Nat × TyI)) : Code → (Exit → St → Prop) → St → Prop
  | .skip, K, s => K .normal s
  | .region _ ops false, K, s => opsVC P τ none ops ops.toList (fun s => K .normal s) s
  | .region id ops true, K, s => s.force fun s => VC P (.region id ops true) K s
  | .seq x y, K, s => vc P τ x (seqK (fun s' => vc P τ y K s') K) s
  | .cond c x y, K, s =>
    (match s.ev c with
     | .tt => vc P τ x K s
     | .ff => vc P τ y K s
     | .b z => (z = true → Nx (vc P τ x K (s.learn c .tt))) ∧ (z = false → Nx (vc P τ y K (s.learn c .ff)))
     | _ => False)
  | .block id c, K, s => vc P τ c (blockK id K) s
  | .loop c, K, s => s.force fun s => VC P (.loop c) K s
  | .exit id, K, s => K (.exit id) s
  | .ret, K, s => K .ret s
  | _, _, _ => False

theorem vc_sound (hτ : TyOk P τ) : ∀ (c : Code) (K : Exit → St → Prop) (s : St), vc P τ c K s → VC P c K s := by
  intro c
  induction c with
  | skip => intro K s h; refine ⟨fun E a w hd => ?_⟩; exact wp_skip ⟨s, h, hd⟩
  | region id ops draw =>
    intro K s h
    refine ⟨fun E a w hd => ?_⟩
    cases draw with
    | false =>
      obtain ⟨γ, hs⟩ := hd
      exact wp_region_list (opsVC_sound hτ ops ops.toList _ s a w γ h hs (fun s' a' w' h1 h2 => ⟨s', h1, h2⟩))
    | true => unfold vc at h; rw [forceS_eq] at h; exact h.run E a w hd
  | seq x y ihx ihy =>
    intro K s h
    refine ⟨fun E a w hd => ?_⟩
    refine wp_seq (wp_mono ((ihx _ s h).run E a w hd) ?_)
    rintro e a' w' ⟨s', h1, h2⟩
    cases e with
    | normal => exact (ihy K s' h1).run E a' w' h2
    | _ => exact ⟨s', h1, h2⟩
  | cond c x y ihx ihy =>
    intro K s h
    refine ⟨fun E a w hd => ?_⟩
    obtain ⟨γ, hs⟩ := hd
    have hc := (ev_sound hs c).1
    unfold vc at h
    split at h
    · rename_i he
      rw [he] at hc
      exact wp_cond_true (by simpa [Reps] using hc) ((ihx K s h).run E a w ⟨γ, hs⟩)
    · rename_i he
      rw [he] at hc
      exact wp_cond_false (by simpa [Reps] using hc) ((ihy K s h).run E a w ⟨γ, hs⟩)
    · rename_i z he
      rw [he] at hc
      have hv : a.eval c = .bool z := by simpa [Reps] using hc
      have know : ∀ b : Bool, z = b → Den E (s.learn c (bif b then .tt else .ff)) a w := fun b hb => by
        subst hb
        cases c with
        | tmp t => exact ⟨γ, hs.learn (by rw [show a.tmps.getD t undef = .bool z from hv]; cases z <;> rfl) (by cases z <;> exact fun M hM => hM.elim)⟩
        | _ => exact ⟨γ, hs⟩
      cases z with
      | true => exact wp_cond_true hv ((ihx K _ (h.1 rfl).out).run E a w (know true rfl))
      | false => exact wp_cond_false hv ((ihy K _ (h.2 rfl).out).run E a w (know false rfl))
    · exact h.elim
  | block id c ih =>
    intro K s h
    refine ⟨fun E a w hd => ?_⟩
    refine wp_block (wp_mono ((ih _ s h).run E a w hd) ?_)
    rintro e a' w' ⟨s', h1, h2⟩
    cases e with
    | exit i =>
      show if i = id then PostK E K .normal a' w' else PostK E K (.exit i) a' w'
      have h1' : (bif Nat.beq i id then K .normal s' else K (.exit i) s') := h1
      by_cases e : i = id
      · subst e; rw [if_pos rfl]; rw [Nat.beq_refl] at h1'; exact ⟨s', h1', h2⟩
      · rw [if_neg e]; rw [beq_ne e] at h1'; exact ⟨s', h1', h2⟩
    | _ => exact ⟨s', h1, h2⟩
  | loop c ih => intro K s h; unfold vc at h; rw [forceS_eq] at h; exact h
  | exit id => intro K s h; exact ⟨fun E a w hd => wp_exit ⟨s, h, hd⟩⟩
  | ret => intro K s h; exact ⟨fun E a w hd => wp_ret ⟨s, h, hd⟩⟩
  | _ => intro K s h; exact h.elim

/-- All that s tells is told by s'. -/
def St.le (s s' : St) : Prop := ∀ E a w, Den E s a w → Den E s' a w
theorem VC.le {c : Code} {K : Exit → St → Prop} {s s' : St} (hl : s.le s') (h : VC P c K s') : VC P c K s := ⟨fun E a w hd => h.run E a w (hl E a w hd)⟩

/-- A loop: the states at its head, by an index that goes down. -/
theorem VC_loop (hτ : TyOk P τ) {c : Code} {K : Exit → St → Prop} {s : St} {ι : Type} (I : ι → St) (p : ι → Prop) (μ : ι → Nat) (R : St → ι → Prop) (hR : ∀ s' i', R s' i' → s'.le (I i')) (i0 : ι) (h0 : p i0) (hs : s.le (I i0))
    (round : ∀ i, p i → Nx (vc P τ c (seqK (fun s' => ∃ i', p i' ∧ μ i' < μ i ∧ R s' i') K) (I i))) : VC P (.loop c) K s := by
  refine ⟨fun E a w hd => ?_⟩
  intro b k cs
  have key : ∀ n i a w, μ i = n → p i → Den E (I i) a w → ∃ e a' w', PostK E K e a' w' ∧ Arrives P (lone (b.at a (.code c :: .inLoop c :: k)) cs w) b k cs e a' w' := by
    intro n
    induction n using Nat.strongRecOn with
    | _ n ih =>
      intro i a w hn hp hd
      have hr := (vc_sound hτ c _ (I i) (round i hp).out).run E a w hd
      obtain ⟨e, a₁, w₁, ⟨s', hK, hd'⟩, harr⟩ := hr b (.inLoop c :: k) cs
      cases e with
      | normal =>
        obtain ⟨i', hp', hlt, hle⟩ := hK
        obtain ⟨e₂, a₂, w₂, hq₂, harr₂⟩ := ih (μ i') (hn ▸ hlt) i' a₁ w₁ rfl hp' (hR s' i' hle E a₁ w₁ hd')
        exact ⟨e₂, a₂, w₂, hq₂, .of_steps (Steps.trans harr (.one step_inLoop)) harr₂⟩
      | exit id => exact ⟨_, a₁, w₁, ⟨s', hK, hd'⟩, .pass (x := .inLoop c) rfl (fun _ _ => .inl (by simp)) harr⟩
      | goto l => exact ⟨_, a₁, w₁, ⟨s', hK, hd'⟩, .pass (x := .inLoop c) rfl (fun _ _ => .inl (by simp)) harr⟩
      | ret => exact ⟨_, a₁, w₁, ⟨s', hK, hd'⟩, .pass (x := .inLoop c) rfl (fun _ _ => .inl (by simp)) harr⟩
      | panic ch => exact ⟨_, a₁, w₁, ⟨s', hK, hd'⟩, .pass (x := .inLoop c) rfl (fun _ _ => .inl (by simp)) harr⟩
      | outgrown => exact ⟨_, a₁, w₁, ⟨s', hK, hd'⟩, .pass (x := .inLoop c) rfl (fun _ _ => .inl (by simp)) harr⟩
  obtain ⟨e, a', w', hq, harr⟩ := key _ i0 a w rfl h0 (hs E a w hd)
  exact ⟨e, a', w', hq, .of_steps (.one step_loop) harr⟩
end
end Go.Proofs.Ytbncmiglhjfcdaa
