/-
  Maps of one's own; further operations that leave old memory alone.
-/
import Derived.Test.YtbncmiglhjfcdaaCi
import Derived.MapKept
namespace Go.Proofs.Ytbncmiglhjfcdaa
open Go.RowKit Go.MapKept
set_option linter.unusedVariables false

section
variable {P : Program} {τ : List (Nat × TyI)} {E : Ent0} {w : World} {s : St} {act : Act} {γ : Nm → Value}

theorem find_map {α : Type} (f : α → Value) (x : Int) : ∀ (l : List MapEntry) (es : List (Int × α)) (i : Nat), l.map (fun e => (e.key, e.val)) = es.map (fun p => (Value.int .i64 p.1, f p.2)) →
    (mfind es x = none ∧ Instr.findNow (.int .i64) (.int .i64 x) l i = some none ∧ ∀ v, mset es x v = es ++ [(x, v)]) ∨
    ∃ j e a, mfind es x = some a ∧ Instr.findNow (.int .i64) (.int .i64 x) l i = some (some (i + j, f a)) ∧ l[j]? = some e ∧ e.key = .int .i64 x ∧ ∀ v, mset es x v = es.set j (x, v)
  | [], [], i, _ => .inl ⟨rfl, rfl, fun _ => rfl⟩
  | [], _ :: _, i, h => by cases h
  | _ :: _, [], i, h => by cases h
  | e :: l, p :: es, i, h => by
    simp only [List.map_cons, List.cons.injEq, Prod.mk.injEq] at h
    obtain ⟨⟨h1, h2⟩, h3⟩ := h
    have hs : Instr.sameNow (.int .i64) (.int .i64 x) e.key = some (x == p.1) := by rw [h1]; rfl
    by_cases hx : x = p.1
    · refine .inr ⟨0, e, p.2, by simp [mfind, hx], ?_, rfl, by rw [h1, hx], fun v => by simp [mset, hx]⟩
      have hb : (x == p.1) = true := by simp [hx]
      simp [Instr.findNow, hs, hb, h2]
    · have hb : (x == p.1) = false := by simp [hx]
      rcases find_map f x l es (i + 1) h3 with ⟨h4, h5, h6⟩ | ⟨j, e', a, h4, h5, h6, h7, h8⟩
      · exact .inl ⟨by simp [mfind, hx, h4], by simp [Instr.findNow, hs, hb, h5], fun v => by simp [mset, hx, h6]⟩
      · exact .inr ⟨j + 1, e', a, by simp [mfind, hx, h4], by simp [Instr.findNow, hs, hb, h5]; omega, by simpa using h6, h7, fun v => by simp [mset, hx, h8]⟩

theorem run_lk {t k e r : Nat} {es : Array MapEntry} {clock : Nat} {x : Int} {z : Value} {o : Option (Nat × Value)} (ok : Bool) (ht : P.underlying t = some (.map k e)) (hk : P.underlying k = some (.int .i64)) (hz : (zeroValue e).run P w = .ok z w) (hb : w.heap[r]? = some (.map es clock))
    (hf : Instr.findNow (.int .i64) (.int .i64 x) es.toList 0 = some o) : (Instr.lookup t (.map (some r)) (.int .i64 x) ok).run P w = .ok (if ok then .tuple #[((o.map (·.2)).getD z), .bool o.isSome] else (o.map (·.2)).getD z) w := by
  have h1 := Go.MapKept.run_checkKey (P := P) (w := w) (k := .int .i64 x) hk rfl es.isEmpty 9999
  cases o with
  | none => simp [Instr.lookup, run_underlying ht, Go.MapKept.run_getObj_map hb, h1, Go.MapKept.run_findKey hk hf, hz]
  | some p => obtain ⟨j, v⟩ := p; simp [Instr.lookup, run_underlying ht, Go.MapKept.run_getObj_map hb, h1, Go.MapKept.run_findKey hk hf]

theorem zero_run {e : Nat} {i : TyI} (hi : tyChk P e i = true) (ha : i.agg = false) {a : AV} (hz : i.zero = .cons a .nil) : ∃ v, (zeroValue e).run P w = .ok v w ∧ zero1 a v = true := by
  obtain ⟨inf, z, h1, h4, h5, h6⟩ := tyChk_flat hi ha
  rw [hz, h6] at h5
  exact ⟨z, by simp [zeroValue, typeInfo, h1, h4], by simpa [zeroB] using h5⟩
theorem mpOf_ints {zero : AV} {k : IntKind} {l : List (Int × Int)} (h : mpOf zero = some (.ints k l)) : zero = .cons (.int k 0) .nil ∧ l = [] := by
  unfold mpOf at h
  split at h
  · rename_i k' n
    cases hd : decide (n = 0) with
    | false => rw [hd] at h; cases h
    | true => rw [hd] at h; cases h; exact ⟨by rw [of_decide_eq_true hd], rfl⟩
  · cases h
  · cases h
theorem mpOf_bools {zero : AV} {l : List (Int × Bool)} (h : mpOf zero = some (.bools l)) : zero = .cons .ff .nil ∧ l = [] := by
  unfold mpOf at h
  split at h
  · rename_i k' n
    cases hd : decide (n = 0) <;> (rw [hd] at h; cases h)
  · cases h; exact ⟨rfl, rfl⟩
  · cases h
theorem mpOf_nil {zero : AV} {m : Mc} (h : mpOf zero = some m) : m.entries = [] := by
  cases m with
  | ints k l => rw [(mpOf_ints h).2]; rfl
  | bools l => rw [(mpOf_bools h).2]; rfl

theorem q_makeMap (h : Sim E s act w γ) {L : Nat} (hL : s.rblk L = none) (hlow : low ≤ L) {t : Nat} {zero : AV} {m : Mc} (hm : mpOf zero = some m) : QRes P E s act w ((Instr.makeMap t none).run P w) L (.om (rt L)) (some (.mp t m)) := by
  have h2 : Sim E (s.setB L (some (.mp t m))) act (w.alloc (.map #[] 0)) (upd γ (rt L) (.map (some w.heap.size))) := by
    refine h.new hL hlow (fr_alloc w _) (fun bk hb => by cases hb; simp) (fun e c he => by cases he) (fun M hM => hM.elim) (fun hk => ?_)
    exact ⟨w.heap.size, #[], 0, upd_at _ _ _, heap_alloc_new w _, by rw [mpOf_nil hm]; rfl⟩
  refine ⟨_, _, _, ?_, h2, ⟨rfl, rfl⟩, fun M hM => (show rt L = M from hM) ▸ lv_addB⟩
  rw [upd_at]
  simp [Instr.makeMap, newObj]
  rfl

theorem q_lookup (h : Sim E s act w γ) {t k e : Nat} {ti ki ei : TyI} (ht : tyChk P t ti = true) (hm : ti.mp = some (k, e)) (hk : tyChk P k ki = true) (hki : ki.ik = some .i64) (he : tyChk P e ei = true) (hea : ei.agg = false) {x ix a : AV} {v u : Value} {ok : Bool} {nb : Option Blk}
    (hx : Reps w (E.ow (s.own γ)) γ x .o [v]) (hlx : s.live x) (hix : Reps w (E.ow (s.own γ)) γ ix .o [u]) (hy : Yields (lkA s t (mpOf ei.zero) x ix ok) a nb) :
    nb = none ∧ ∃ r, (Instr.lookup t v u ok).run P w = .ok r w ∧ Reps w (E.ow (s.own γ)) γ a .o [r] ∧ ∀ M, ¬ a.has M := by
  unfold lkA at hy
  split at hy
  · rename_i L n
    obtain ⟨_, e1⟩ := hx
    cases e1
    cases hix
    split at hy
    · rename_i t' m hL
      obtain ⟨r, es, clock, h1, h2, h3⟩ := h.blks _ _ (St.lv_at (hlx L rfl) hL)
      cases hb : Nat.beq t' t with
      | false => rw [hb] at hy; cases hy
      | true =>
        rw [hb] at hy
        simp only [cond_true] at hy
        have hu := tyChk_mp ht hm
        have huk := tyChk_ik hk hki
        split at hy
        · rename_i q l q' l' hz
          cases hd : decide (q' = q) with
          | false => rw [hd] at hy; cases hy
          | true =>
            rw [hd] at hy
            obtain rfl := of_decide_eq_true hd
            simp only [cond_true] at hy
            obtain ⟨z, z1, z2⟩ := zero_run (w := w) he hea (mpOf_ints hz).1
            have z3 : z = .int q' 0 := by
              unfold zero1 at z2
              cases z <;> simp_all
            subst z3
            have key : ∀ o, Instr.findNow (.int .i64) (.int .i64 n) es.toList 0 = some o → (o.map (·.2)).getD (.int q' 0) = .int q' (mgetI l n) → o.isSome = mhas l n →
                ∃ r', (Instr.lookup t (γ L) (.int .i64 n) ok).run P w = .ok r' w ∧ Reps w (E.ow (s.own γ)) γ (bif ok then .tup (.cons (.int q' (mgetI l n)) (.cons (.b (mhas l n)) .nil)) else .int q' (mgetI l n)) .o [r'] ∧ ∀ M, ¬ (bif ok then AV.tup (.cons (.int q' (mgetI l n)) (.cons (.b (mhas l n)) .nil)) else .int q' (mgetI l n)).has M := by
              intro o ho h5 h6
              have hr := run_lk ok hu huk z1 h2 ho
              rw [h1]
              refine ⟨_, hr, ?_, ?_⟩
              · rw [h5, h6]
                cases ok with
                | true => exact ⟨_, rfl, _, _, rfl, rfl, _, _, rfl, rfl, rfl⟩
                | false => rfl
              · cases ok with
                | true => rintro M (h | h | h) <;> exact h
                | false => exact fun M h => h
            cases hy
            refine ⟨rfl, ?_⟩
            rcases find_map (.int q') n es.toList l 0 (by rw [h3]; rfl) with ⟨g1, g2, _⟩ | ⟨j, e', a', g1, g2, _⟩
            · exact key _ g2 (by simp [mgetI, g1]) (by simp [mhas, g1])
            · exact key _ g2 (by simp [mgetI, g1]) (by simp [mhas, g1])
        · rename_i l l' hz
          obtain ⟨z, z1, z2⟩ := zero_run (w := w) he hea (mpOf_bools hz).1
          have z3 : z = .bool false := by
            unfold zero1 at z2
            split at z2 <;> first | rfl | (rename_i e1 _; cases e1; done) | (cases z2; done) | skip
            all_goals simp_all
          subst z3
          have key : ∀ o, Instr.findNow (.int .i64) (.int .i64 n) es.toList 0 = some o → (o.map (·.2)).getD (.bool false) = .bool (mgetB l n) → o.isSome = mhas l n →
              ∃ r', (Instr.lookup t (γ L) (.int .i64 n) ok).run P w = .ok r' w ∧ Reps w (E.ow (s.own γ)) γ (bif ok then .tup (.cons (.b (mgetB l n)) (.cons (.b (mhas l n)) .nil)) else .b (mgetB l n)) .o [r'] ∧ ∀ M, ¬ (bif ok then AV.tup (.cons (.b (mgetB l n)) (.cons (.b (mhas l n)) .nil)) else .b (mgetB l n)).has M := by
            intro o ho h5 h6
            have hr := run_lk ok hu huk z1 h2 ho
            rw [h1]
            refine ⟨_, hr, ?_, ?_⟩
            · rw [h5, h6]
              cases ok with
              | true => exact ⟨_, rfl, _, _, rfl, rfl, _, _, rfl, rfl, rfl⟩
              | false => rfl
            · cases ok with
              | true => rintro M (h | h | h) <;> exact h
              | false => exact fun M h => h
          cases hy
          refine ⟨rfl, ?_⟩
          rcases find_map .bool n es.toList l 0 (by rw [h3]; rfl) with ⟨g1, g2, _⟩ | ⟨j, e', a', g1, g2, _⟩
          · exact key _ g2 (by simp [mgetB, g1]) (by simp [mhas, g1])
          · exact key _ g2 (by simp [mgetB, g1]) (by simp [mhas, g1])
        · cases hy
    · cases hy
  · cases hy
end
end Go.Proofs.Ytbncmiglhjfcdaa
