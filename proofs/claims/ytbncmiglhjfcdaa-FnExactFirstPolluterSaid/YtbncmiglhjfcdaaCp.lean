/-
  Operations that write: store into one's own memory, map entries, a slice's beginning left out.
-/
import Derived.Test.YtbncmiglhjfcdaaCo
import Derived.Laws.Append
import Derived.Laws.AppendOwn
namespace Go.Proofs.Ytbncmiglhjfcdaa
open Go.RowKit Go.MapKept
set_option linter.unusedVariables false

/-- What comes of an operation that writes. -/
inductive SRes where
  | ok (p : Prop) (s : St)
  | bad

def Ct.set (k j : Nat) (m : AV) : Ct → Option Ct
  | .ints q xs => match m with | .int q' n => bif decide (q' = q) then some (.ints q (xs.set k n)) else none | _ => none
  | .bools xs => match m with | .b x => some (.bools (xs.set k x)) | .tt => some (.bools (xs.set k true)) | .ff => some (.bools (xs.set k false)) | _ => none
  | .tab n st cell => some (.tab n st fun k' j' => bif Nat.ble j j' && Nat.blt j' (j + m.len) && Nat.beq k' k then m.nth (j' - j) else cell k' j')
/-- Are there slices of one's own in the cells j, .., j + n of the row's element k? -/
def ownCells (c : Ct) (k j : Nat) : Nat → Bool
  | 0 => false
  | n + 1 => (c.cell k j).sub.isSome || ownCells c k (j + 1) n
/-- Slices that are given to the cells into which they are stored. -/
def mvOf1 (N : Nm) (j : Nat) (a : AV) (s : St) : List (Nat × Nat) :=
  match a with
  | .os M => (match M.p with | [] => bif Nat.ble low M.r && !Nat.beq M.r N.r && (match s.rblk M.r with | some y => y.nest | none => false) then [(j, M.r)] else [] | _ :: _ => [])
  | _ => []
def mvOf (s : St) (N : Nm) : Nat → AV → List (Nat × Nat)
  | j, .cons a l => mvOf1 N j a s ++ mvOf s N (j + 1) l
  | j, a => mvOf1 N j a s
def mvOk : List (Nat × Nat) → Bool
  | [] => true
  | p :: l => (l.all fun q => !Nat.beq q.1 p.1 && !Nat.beq q.2 p.2) && mvOk l
def St.mvs (s : St) (N : Nm) (k : Nat) : List (Nat × Nat) → St
  | [] => s
  | p :: l => (s.mv N k p.1 p.2).mvs N k l
def stoA (s : St) (size : Nat) (a x : AV) : SRes :=
  match a with
  | .op N j =>
    match s.blk N with
    | some (.box l) => bif x.flat && Nat.beq x.cells.len size && Nat.ble (j + size) l.len then .ok True (s.setN N (.box (l.splice j x.cells))) else .bad
    | _ => .bad
  | .oe N st k j =>
    match s.blk N with
    | some (.row e c) =>
      bif x.flat && Nat.beq x.cells.len size && Nat.ble (j + size) st && Nat.beq c.st st && mvOk (mvOf s N j x.cells) then
        (bif ownCells c k j size then
          (match (c.kill (kids N.r)).set k j (x.cells.kill (kids N.r)) with
           | some c' => .ok (k < c.len) (((s.kill (kids N.r)).setN N (.row e c')).mvs N k (mvOf s N j x.cells))
           | none => .bad)
         else
          (match c.set k j x.cells with
           | some c' => .ok (k < c.len) ((s.setN N (.row e c')).mvs N k (mvOf s N j x.cells))
           | none => .bad))
      else .bad
    | _ => .bad
  | _ => .bad
def mupA (s : St) (t : Nat) (a k x : AV) : SRes :=
  match a, k with
  | .om N, .int .i64 n =>
    (match s.blk N with
     | some (.mp t' m) =>
       bif Nat.beq t' t then
         (match m, x with
          | .ints q es, .int q' v => bif decide (q' = q) then .ok True (s.setN N (.mp t (.ints q (mset es n v)))) else .bad
          | .bools es, .b v => .ok True (s.setN N (.mp t (.bools (mset es n v))))
          | .bools es, .tt => .ok True (s.setN N (.mp t (.bools (mset es n true))))
          | .bools es, .ff => .ok True (s.setN N (.mp t (.bools (mset es n false))))
          | _, _ => .bad)
       else .bad
     | _ => .bad)
  | _, _ => .bad
/-- x[lo:] -/
def trimA (s : St) (e d : Nat) (x lo : AV) : SRes :=
  match x, lo with
  | .os N, .int _ m =>
    (match N.p, s.blk N with
     | [], some (.row e' (.ints k xs)) => bif Nat.beq e' e && Nat.ble low N.r then .ok (0 ≤ m ∧ m ≤ xs.length) (((s.kill (atR N.r)).setB N.r (some (.row e (.ints k (xs.drop m.toNat))))).put d (.os (rt N.r))) else .bad
     | _, _ => .bad)
  | _, _ => .bad

section
variable {P : Program} {E : Ent0} {w w' : World} {s : St} {act : Act} {γ : Nm → Value}

/-- A row one of whose elements was written. -/
def SetOk (c c' : Ct) (k j : Nat) (m : AV) : Prop :=
    c'.len = c.len ∧ c'.st = c.st ∧
    (∀ k' j', k' < c.len → j' < c.st → ¬ (k' = k ∧ j ≤ j' ∧ j' < j + m.len) → c'.cell k' j' = c.cell k' j') ∧
    (∀ i, i < m.len → ((m.nth i).sub = none → (c'.cell k (j + i)).sub = none) ∧ (∀ M, m.nth i = .os M → c'.cell k (j + i) = .os M) ∧ ∀ (w : World) (own : Bool → Nat → Prop) (γ : Nm → Value) ro vs, Reps w own γ (m.nth i) ro vs → Reps w own γ (c'.cell k (j + i)) ro vs) ∧
    (∀ k' j' M, (c'.cell k' j').has M → m.has M ∨ (c.cell k' j').has M)
theorem blt_of {a b : Nat} (h : a < b) : Nat.blt a b = true := by rw [Nat.blt_eq]; exact h
theorem set_spec {c c' : Ct} {k j : Nat} {m : AV} (h : c.set k j m = some c') (hk : k < c.len) (hj : j + m.len ≤ c.st) (hm : 0 < m.len) : SetOk c c' k j m := by
  cases c with
  | ints q xs =>
    cases m with
    | int q' n =>
      simp only [Ct.set] at h
      cases hd : decide (q' = q) with
      | false => rw [hd] at h; cases h
      | true =>
        rw [hd] at h
        cases h
        obtain rfl := of_decide_eq_true hd
        have hk' : k < xs.length := hk
        refine ⟨by simp [Ct.len], rfl, fun k' j' h1 h2 h3 => ?_, fun i hi => ⟨fun _ => rfl, fun M hM => ?_, fun w own γ ro vs hr => ?_⟩, fun k' j' M hM => hM.elim⟩
        · have h2' : j' < 1 := h2
          have hj' : j + 1 ≤ 1 := hj
          have hne : k ≠ k' := fun e => h3 ⟨e.symm, by omega, by simp only [AV.len]; omega⟩
          simp [Ct.cell, ci, List.getElem?_set_ne hne]
        · have hi' : i < 1 := hi
          obtain rfl : i = 0 := by omega
          cases hM
        · have hi' : i < 1 := hi
          obtain rfl : i = 0 := by omega
          have : (AV.int q' n).nth 0 = .int q' n := rfl
          rw [this] at hr
          simpa [Ct.cell, ci, hk'] using hr
    | _ => cases h
  | bools xs =>
    have key : ∀ x : Bool, (∀ (w : World) (own : Bool → Nat → Prop) (γ : Nm → Value) ro vs, Reps w own γ (m.nth 0) ro vs → Reps w own γ (.b x) ro vs) → (∀ M, m.nth 0 ≠ .os M) → m.len = 1 → c' = .bools (xs.set k x) → SetOk (.bools xs) c' k j m := fun x hx hno hl hc => by
      subst hc
      have hk' : k < xs.length := hk
      exact ⟨by simp [Ct.len], rfl, fun k' j' h1 h2 h3 => by
          have h2' : j' < 1 := h2
          have hj' : j + m.len ≤ 1 := hj
          have hne : k ≠ k' := fun e => h3 ⟨e.symm, by omega, by omega⟩
          simp [Ct.cell, cb, List.getElem?_set_ne hne], fun i hi => ⟨fun _ => rfl, fun M hM => by
            have hi0 : i = 0 := by omega
            rw [hi0] at hM; exact absurd hM (hno M), fun w own γ ro vs hr => by
          have hi0 : i = 0 := by omega
          rw [hi0] at hr ⊢
          have := hx w own γ ro vs hr
          simpa [Ct.cell, cb, hk'] using this⟩, fun k' j' M hM => hM.elim⟩
    cases m with
    | b x => cases h; exact key x (fun _ _ _ _ _ h => h) (fun M h => by cases h) rfl rfl
    | tt => cases h; exact key true (fun _ _ _ _ _ h => h) (fun M h => by cases h) rfl rfl
    | ff => cases h; exact key false (fun _ _ _ _ _ h => h) (fun M h => by cases h) rfl rfl
    | _ => cases h
  | tab n st cell =>
    cases h
    have hin : ∀ i, i < m.len → (bif Nat.ble j (j + i) && Nat.blt (j + i) (j + m.len) && Nat.beq k k then m.nth (j + i - j) else cell k (j + i)) = m.nth i := fun i hi => by
      have h1 : Nat.ble j (j + i) = true := Nat.ble_eq_true_of_le (by omega)
      have h2 : Nat.blt (j + i) (j + m.len) = true := blt_of (by omega)
      simp only [Nat.beq_refl, h1, h2, Bool.and_self, cond_true, Nat.add_sub_cancel_left]
    refine ⟨rfl, rfl, fun k' j' h1 h2 h3 => ?_, fun i hi => ⟨fun hs => ?_, fun M hM => ?_, fun w own γ ro vs hr => ?_⟩, fun k' j' M hM => ?_⟩
    · show (bif Nat.ble j j' && Nat.blt j' (j + m.len) && Nat.beq k' k then m.nth (j' - j) else cell k' j') = cell k' j'
      cases hb : (Nat.ble j j' && Nat.blt j' (j + m.len) && Nat.beq k' k) with
      | false => rfl
      | true =>
        simp only [Bool.and_eq_true] at hb
        exact absurd ⟨Nat.eq_of_beq_eq_true hb.2, Nat.le_of_ble_eq_true hb.1.1, blt_pos hb.1.2⟩ h3
    · show (bif Nat.ble j (j + i) && Nat.blt (j + i) (j + m.len) && Nat.beq k k then m.nth (j + i - j) else cell k (j + i)).sub = none
      rw [hin i hi]; exact hs
    · show (bif Nat.ble j (j + i) && Nat.blt (j + i) (j + m.len) && Nat.beq k k then m.nth (j + i - j) else cell k (j + i)) = .os M
      rw [hin i hi]; exact hM
    · show Reps w own γ (bif Nat.ble j (j + i) && Nat.blt (j + i) (j + m.len) && Nat.beq k k then m.nth (j + i - j) else cell k (j + i)) ro vs
      rw [hin i hi]; exact hr
    · have hM' : (bif Nat.ble j j' && Nat.blt j' (j + m.len) && Nat.beq k' k then m.nth (j' - j) else cell k' j').has M := hM
      cases hb : (Nat.ble j j' && Nat.blt j' (j + m.len) && Nat.beq k' k) with
      | false => rw [hb] at hM'; exact .inr hM'
      | true => rw [hb] at hM'; exact .inl (has_nth hM')

theorem run_storeAt {t : Nat} {i : TyI} (hi : tyChk P t i = true) {bk o : Nat} {us : List Value} {ty : TypeId} {v : Value} (hh : w.heap[bk]? = some (.cells us.toArray ty (0, 0))) (hs : v.cells.size = i.size) (hl : o + i.size ≤ us.length)
    (h1 : ∀ u ∈ v.cells.toList, u.oneCell' = true) :
    (Instr.storeAt t (.pointer (some ⟨bk, o, none⟩)) v).run P w = .ok () (w.setRow bk (us.take o ++ v.cells.toList ++ us.drop (o + i.size)).toArray) := by
  obtain ⟨inf, z, i1, i2, i3, i4, i5⟩ := tyChk_info hi
  have hr := run_storeCells_at P bk o ty v.cells.toList 0 us.toArray w hh (by simp [hs]; exact hl) h1
  simp only [Nat.add_zero, Array.length_toList, hs] at hr
  simp [Instr.storeAt, Instr.sureAddr, storeVar, sizeOf, typeInfo, i1, i2, hs, hr]
theorem setRow_size (w : World) (g : Nat) (cs : Array Value) : (w.setRow g cs).heap.size = w.heap.size := by simp [World.setRow]

/-- A block of one's own is written; slices of one's own in its cells may be given up, if nothing speaks of them. -/
theorem Sim.writeD (h : Sim E s act w γ) {N : Nm} {bk : Nat} {y y0 : Blk} (hN : s.at N y0) (hbk : blkOf (γ N) = some bk) (hnest : N.p ≠ [] → y.nest = true) (hos : w'.os = w.os) (htape : w'.tape = w.tape) (hout : w'.output = w.output)
    (hs : w'.heap.size = w.heap.size) (hb : ∀ k, k ≠ bk → w'.heap[k]? = w.heap[k]?) (hx : ∀ M, y.has M → s.lv M ∧ (M.r = N.r → M.p = []))
    (hsub1 : ∀ r z, r ≠ [] → y.At r z → y0.At r z) (hk1 : ∀ t M, (s.slot t).has M → M.r = N.r → M.p = []) (hk2 : ∀ D z M, s.at D z → z.has M → M.r = N.r → M.p = [])
    (hok : Keeps w w' (E.ow (s.own γ)) (E.ow ((s.setN N y).own γ)) → BlkOk w' (E.ow ((s.setN N y).own γ)) γ N y) : Sim E (s.setN N y) act w' γ := by
  have ho : s.own γ bk := ⟨N, y0, hN, hbk⟩
  have cs : ∀ {D z}, (s.setN N y).at D z → (D = N ∧ z = y) ∨ (D ≠ N ∧ ∃ z1, s.at D z1 ∧ SameSh z1 z) := by
    intro D z hD
    rcases at_setN hN hnest hD with ⟨r, rfl, hr⟩ | ⟨hr, z1, h1, h2⟩
    · cases r with
      | nil => cases hr; exact .inl ⟨by simp, rfl⟩
      | cons q r =>
        refine .inr ⟨fun e => ?_, z, (at_below hN).2 (hsub1 _ _ (by simp) hr), SameSh.refl z⟩
        have := congrArg Nm.p e
        simp at this
    · exact .inr ⟨fun e => hr ⟨[], by rw [e]; simp⟩, z1, h1, h2⟩
  have lv : ∀ {D : Nm}, s.lv D → (D.r = N.r → D.p = []) → (s.setN N y).lv D := by
    rintro D ⟨z, hz⟩ hp
    by_cases e : ∃ r, D = ⟨N.r, N.p ++ r⟩
    · obtain ⟨r, rfl⟩ := e
      have h3 : N.p = [] ∧ r = [] := by simpa using hp rfl
      rw [h3.2, List.append_nil]
      exact ⟨y, setN_at hN hnest⟩
    · exact setN_old hN hnest hz e
  have hin : ∀ {D z}, (s.setN N y).at D z → ∃ z1, s.at D z1 := by
    intro D z hD
    rcases cs hD with ⟨rfl, rfl⟩ | ⟨_, z1, h1, _⟩
    · exact ⟨_, hN⟩
    · exact ⟨_, h1⟩
  refine h.build ⟨hos, htape, hout, Nat.le_of_eq hs.symm, fun k _ hn => hb k (fun e => hn (e ▸ ho))⟩ (by rw [setN_n]; exact h.size) h.defers (fun D x' hD bk' hb' => ?_) (fun D M u v bk' hD hM hb1 hb2 => ?_) (fun hk t => ?_) (fun hk D z hD => ?_) ⟨fun t M hM => ?_, fun M z D hM hD => ?_⟩ (fun L hL hl => ?_)
  · obtain ⟨z1, h1⟩ := hin hD
    exact .inr ⟨D, z1, h1, hb'⟩
  · obtain ⟨z1, h1⟩ := hin hD
    obtain ⟨z2, h2⟩ := hin hM
    exact h.inj D M z1 z2 bk' h1 h2 hb1 hb2
  · rw [setN_slot]; exact (h.slots t).keep hk
  · rcases cs hD with ⟨rfl, rfl⟩ | ⟨hne, z1, h1, h2⟩
    · exact hok hk
    · refine BlkOk.same ?_ h2
      exact (h.blks D z1 h1).keep hk rfl (fun _ _ => rfl) (fun _ _ _ _ _ _ _ _ => rfl) (fun b2 hb2 => hb b2 (fun e => hne (h.inj D N z1 y0 bk h1 hN (e ▸ hb2) hbk)))
  · rw [setN_slot] at hM; exact lv (h.wf.slot t M hM) (hk1 t M hM)
  · rcases cs hM with ⟨rfl, rfl⟩ | ⟨_, z1, h1, h2⟩
    · exact lv (hx D hD).1 (hx D hD).2
    · exact lv (h.wf.blk M z1 D h1 (h2.has hD)) (hk2 M z1 D h1 (h2.has hD))
  · obtain ⟨z, hz⟩ := hl
    obtain ⟨z1, h1⟩ := hin hz
    exact h.hd L hL ⟨z1, h1⟩

/-! ### slices given to cells -/
theorem mv_parts {N : Nm} {e : TypeId} {c : Ct} {i j R : Nat} {y : Blk} (hN : s.at N (.row e c)) (hR : s.rblk R = some y) (hne : N.r ≠ R) :
    (s.mv N i j R).at N (.row e ((c.kill (atR R)).put i j (y.kill (atR R)).asOwn)) ∧ ∀ R', R' ≠ R → R' ≠ N.r → (s.mv N i j R).rblk R' = (s.rblk R').map (Blk.kill (atR R)) := by
  unfold St.mv
  rw [St.at_blk hN, hR]
  simp only
  have hN1 : ((s.kill (atR R)).setB R none).at N (.row e (c.kill (atR R))) := at_setNone.2 ⟨hne, of_kill.2 ⟨_, hN, rfl⟩⟩
  refine ⟨setN_at hN1 (fun _ => rfl), fun R' h1 h2 => ?_⟩
  have : ∀ (t : St) (y : Blk), (t.setN N y).rblk R' = t.rblk R' := fun t y => by
    unfold St.setN
    split
    · rw [St.rblk_setB, if_neg (Ne.symm h2)]
    · rfl
  rw [this, St.rblk_setB, if_neg (Ne.symm h1), rblk_kill]
theorem nest_kill {Q : Nm → Bool} (y : Blk) : (y.kill Q).nest = y.nest := by
  cases y with
  | row e c => cases c <;> rfl
  | _ => rfl
theorem Sim.mvs {N : Nm} {k : Nat} : ∀ (l : List (Nat × Nat)) {s : St} {γ : Nm → Value} {e : TypeId} {c : Ct}, Sim E s act w γ → s.at N (.row e c) → k < c.len → mvOk l = true →
    (∀ p ∈ l, p.1 < c.st ∧ c.cell k p.1 = .os (rt p.2) ∧ p.2 ≠ N.r ∧ ∃ y, s.rblk p.2 = some y ∧ y.nest = true) → ∃ γ', Sim E (s.mvs N k l) act w γ'
  | [], s, γ, e, c, h, hN, hk, ho, hl => ⟨γ, h⟩
  | p :: l, s, γ, e, c, h, hN, hk, ho, hl => by
    obtain ⟨h1, h2, h3, y, h4, h5⟩ := hl p (by simp)
    simp only [mvOk, Bool.and_eq_true] at ho
    obtain ⟨γ', h6⟩ := h.mv hN hk h1 h2 h4 h5 (Ne.symm h3)
    obtain ⟨h7, h8⟩ := mv_parts (i := k) (j := p.1) hN h4 (Ne.symm h3)
    refine Sim.mvs l h6 h7 (by show k < (c.kill (atR p.2)).len; rw [Ct.kill_len]; exact hk) ho.2 (fun q hq => ?_)
    obtain ⟨g1, g2, g3, z, g4, g5⟩ := hl q (by simp [hq])
    have h9 := (List.all_eq_true.1 ho.1) q hq
    simp only [Bool.and_eq_true, Bool.not_eq_true'] at h9
    have ne1 : q.1 ≠ p.1 := fun e => by rw [e, Nat.beq_refl] at h9; cases h9.1
    have ne2 : q.2 ≠ p.2 := fun e => by rw [e, Nat.beq_refl] at h9; cases h9.2
    refine ⟨by show q.1 < (c.kill (atR p.2)).st; rw [Ct.kill_st]; exact g1, ?_, g3, z.kill (atR p.2), by rw [h8 q.2 ne2 g3, g4]; rfl, by rw [nest_kill]; exact g5⟩
    rw [put_ne _ _ (fun e => ne1 e.2), Ct.kill_cell, g2]
    have : atR p.2 (rt q.2) = false := beq_ne ne2
    simp [AV.kill, this]

theorem mvOf1_spec {N : Nm} {a : AV} {j : Nat} {p : Nat × Nat} (hp : p ∈ mvOf1 N j a s) : p.1 = j ∧ a = .os (rt p.2) ∧ p.2 ≠ N.r ∧ low ≤ p.2 ∧ ∃ y, s.rblk p.2 = some y ∧ y.nest = true := by
  unfold mvOf1 at hp
  split at hp
  · rename_i M
    split at hp
    · rename_i hM
      cases hb : (Nat.ble low M.r && !Nat.beq M.r N.r && (match s.rblk M.r with | some y => y.nest | none => false)) with
      | false => rw [hb] at hp; cases hp
      | true =>
        rw [hb] at hp
        simp only [cond_true, List.mem_singleton] at hp
        simp only [Bool.and_eq_true, Bool.not_eq_true'] at hb
        subst hp
        refine ⟨rfl, by obtain ⟨r, q⟩ := M; simp only at hM; rw [hM], fun e => ?_, Nat.le_of_ble_eq_true hb.1.1, ?_⟩
        · have := hb.1.2; rw [show M.r = N.r from e, Nat.beq_refl] at this; cases this
        · cases hr : s.rblk M.r with
          | none => rw [hr] at hb; cases hb.2
          | some y => rw [hr] at hb; exact ⟨y, rfl, hb.2⟩
    · cases hp
  · cases hp
theorem mvOf_spec {N : Nm} : ∀ {x : AV} {j : Nat} {p : Nat × Nat}, p ∈ mvOf s N j x → j ≤ p.1 ∧ p.1 < j + x.len ∧ x.nth (p.1 - j) = .os (rt p.2) ∧ p.2 ≠ N.r ∧ low ≤ p.2 ∧ ∃ y, s.rblk p.2 = some y ∧ y.nest = true := by
  intro x
  induction x with
  | cons a l iha ihl =>
    intro j p hp
    unfold mvOf at hp
    rcases List.mem_append.1 hp with hp | hp
    · obtain ⟨h1, h2, h3⟩ := mvOf1_spec hp
      exact ⟨by omega, by simp only [AV.len]; omega, by rw [h1, Nat.sub_self]; exact h2, h3⟩
    · obtain ⟨h1, h2, h3, h4⟩ := ihl hp
      refine ⟨by omega, by simp only [AV.len]; omega, ?_, h4⟩
      rw [show p.1 - j = (p.1 - (j + 1)) + 1 by omega]; exact h3
  | _ =>
    intro j p hp
    unfold mvOf at hp
    obtain ⟨h1, h2, h3⟩ := mvOf1_spec hp
    first
      | (cases h2; done)
      | exact ⟨by omega, by simp only [AV.len]; omega, by rw [h1, Nat.sub_self]; exact h2, h3⟩
end
end Go.Proofs.Ytbncmiglhjfcdaa
