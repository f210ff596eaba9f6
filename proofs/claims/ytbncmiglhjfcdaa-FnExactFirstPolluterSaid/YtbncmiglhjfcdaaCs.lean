/-
  append.
-/
import Derived.Test.YtbncmiglhjfcdaaCr
namespace Go.Proofs.Ytbncmiglhjfcdaa
open Go.RowKit
set_option linter.unusedVariables false

def Ct.app : Ct → Ct → Option Ct
  | .ints q xs, .ints q' ys => bif decide (q' = q) then some (.ints q (xs ++ ys)) else none
  | .bools xs, .bools ys => some (.bools (xs ++ ys))
  | .tab n st cell, .tab m st' cell' => bif Nat.beq st' st then some (.tab (n + m) st fun k j => bif Nat.blt k n then cell k j else cell' (k - n) j) else none
  | _, _ => none
/-- What is read out of a row. -/
def Ct.ld (N : Nm) : Ct → Ct
  | .tab n st cell => .tab n st (ldc N cell)
  | c => c
def srcA (s : St) (y : AV) : Option Ct :=
  match y with
  | .os N => (match s.blk N with | some (.row _ c) => some (c.ld N) | _ => none)
  | .ri _ q xs => some (.ints q xs)
  | .rs _ n st cell => some (.tab n st cell)
  | _ => none
/-- Slices that are given to the cells behind the old end. -/
def mvRow (s : St) (N : Nm) (cell : Nat → Nat → AV) : Nat → List (Nat × Nat)
  | 0 => []
  | j + 1 => mvRow s N cell j ++ mvOf1 N j (cell 0 j) s
def appMv (s : St) (N : Nm) (y : AV) : List (Nat × Nat) :=
  match y with
  | .os M => (match s.blk M with | some (.row _ (.tab n st cell)) => bif Nat.beq n 1 && mvOk (mvRow s N (ldc M cell) st) then mvRow s N (ldc M cell) st else [] | _ => [])
  | _ => []
/-- append: the row that is written, what it holds then. -/
def appA (s : St) (e size L d : Nat) (x y : AV) : SRes :=
  match srcA s y with
  | some c2 =>
    match x with
    | .os N =>
      (match N.p, s.blk N with
       | [], some (.row e' c) => bif Nat.beq e' e && Nat.beq c.st size && Nat.beq c2.st size && Nat.ble low N.r then
           (match c.app c2 with | some c' => .ok (c'.len ≤ 1073741824) ((((s.kill (atR N.r)).setB N.r (some ((Blk.row e c').kill (atR N.r)))).put d (.os (rt N.r))).mvs (rt N.r) c.len (appMv s N y)) | none => .bad) else .bad
       | _, _ => .bad)
    | .nl => bif Nat.beq c2.st size then (match s.rblk L with | none => .ok (c2.len ≤ 1073741824) (((s.setB L (some (.row e c2))).put d (.os (rt L))).mvs (rt L) 0 (appMv s (rt L) y)) | some _ => .bad) else .bad
    | .e0 => bif Nat.beq c2.st size then (match s.rblk L with | none => .ok (c2.len ≤ 1073741824) (((s.setB L (some (.row e c2))).put d (.os (rt L))).mvs (rt L) 0 (appMv s (rt L) y)) | some _ => .bad) else .bad
    | _ => .bad
  | none => .bad

section
variable {P : Program} {E : Ent0} {w w' : World} {s : St} {act : Act} {γ : Nm → Value}

theorem ld_len (N : Nm) (c : Ct) : (c.ld N).len = c.len := by cases c <;> rfl
theorem ld_st (N : Nm) (c : Ct) : (c.ld N).st = c.st := by cases c <;> rfl
theorem ld_cell (N : Nm) (c : Ct) (k j : Nat) : (c.ld N).cell k j = ldc N c.cell k j := by cases c <;> rfl
theorem mkNews {n st : Nat} {G : Nat → Nat → Value → Prop} (hst : 0 < st) (h : ∀ k j, k < n → j < st → ∃ u, G k j u) :
    ∃ news : List Value, news.length = n * st ∧ ∀ k j, k < n → j < st → ∃ u, news[k * st + j]? = some u ∧ G k j u := by
  have hc : ∀ k j, ∃ u, k < n → j < st → G k j u := fun k j => by
    by_cases hk : k < n
    · by_cases hj : j < st
      · obtain ⟨u, hu⟩ := h k j hk hj; exact ⟨u, fun _ _ => hu⟩
      · exact ⟨undef, fun _ h => absurd h hj⟩
    · exact ⟨undef, fun h => absurd h hk⟩
  let f : Nat → Nat → Value := fun k j => Classical.choose (hc k j)
  have hf : ∀ k j, k < n → j < st → G k j (f k j) := fun k j => Classical.choose_spec (hc k j)
  refine ⟨(List.range (n * st)).map fun i => f (i / st) (i % st), by simp, fun k j hk hj => ⟨f k j, ?_, hf k j hk hj⟩⟩
  have hlt : k * st + j < n * st := by
    have := Nat.mul_le_mul_right st (show k + 1 ≤ n by omega)
    rw [Nat.succ_mul] at this; omega
  have e1 : (k * st + j) / st = k := by rw [Nat.mul_comm, Nat.mul_add_div hst, Nat.div_eq_of_lt hj]; omega
  have e2 : (k * st + j) % st = j := by rw [Nat.mul_comm, Nat.mul_add_mod]; exact Nat.mod_eq_of_lt hj
  simp [hlt, e1, e2]
theorem news_all {n st : Nat} {G : Value → Prop} {news : List Value} (hst : 0 < st) (hl : news.length = n * st) (h : ∀ k j, k < n → j < st → ∃ u, news[k * st + j]? = some u ∧ G u) : ∀ u ∈ news, G u := by
  intro u hu
  obtain ⟨i, hi, he⟩ := List.getElem_of_mem hu
  have hk : i / st < n := by rw [hl] at hi; exact Nat.div_lt_of_lt_mul (by rwa [Nat.mul_comm])
  have hj : i % st < st := Nat.mod_lt _ hst
  have e : i / st * st + i % st = i := by rw [Nat.mul_comm]; exact Nat.div_add_mod i st
  obtain ⟨v, h1, h2⟩ := h _ _ hk hj
  rw [e, List.getElem?_eq_getElem hi, he] at h1
  cases h1
  exact h2

theorem src_sound (h : Sim E s act w γ) {y : AV} {vy : Value} (hr : Reps w (E.ow (s.own γ)) γ y .o [vy]) (hl : s.live y) {c : Ct} (hc : srcA s y = some c) (hst : 0 < c.st) :
    ∃ B cap news, vy = .slice B c.len cap ∧ (news : List Value).length = c.len * c.st ∧ (∀ u ∈ news, u.oneCell' = true) ∧ (0 < c.len → ∃ a, B = some a ∧ ∀ j u, news[j]? = some u → w.cell? (a.add j) = some u) ∧
      (∀ k j, k < c.len → j < c.st → ∃ u, news[k * c.st + j]? = some u ∧ Reps w (E.ow (s.own γ)) γ (c.cell k j) .o [u]) ∧ (∀ k j M, k < c.len → j < c.st → (c.cell k j).has M → s.lv M) ∧ (B = none → c.len = 0) := by
  have key : ∀ (bk o : Nat), (∀ k j, k < c.len → j < c.st → ∃ u, w.cell? ⟨bk, o + (k * c.st + j), none⟩ = some u ∧ u.oneCell' = true ∧ Reps w (E.ow (s.own γ)) γ (c.cell k j) .o [u]) →
      ∃ news : List Value, news.length = c.len * c.st ∧ (∀ u ∈ news, u.oneCell' = true) ∧ (∀ j u, news[j]? = some u → w.cell? ((⟨bk, o, none⟩ : Addr).add j) = some u) ∧
        (∀ k j, k < c.len → j < c.st → ∃ u, news[k * c.st + j]? = some u ∧ Reps w (E.ow (s.own γ)) γ (c.cell k j) .o [u]) := by
    intro bk o hcell
    obtain ⟨news, h1, h2⟩ := mkNews hst hcell
    refine ⟨news, h1, news_all hst h1 (fun k j hk hj => ?_), fun i u hu => ?_, fun k j hk hj => ?_⟩
    · obtain ⟨u, h3, h4⟩ := h2 k j hk hj; exact ⟨u, h3, h4.2.1⟩
    · have hi : i < news.length := (List.getElem?_eq_some_iff.1 hu).1
      have hk : i / c.st < c.len := by rw [h1] at hi; exact Nat.div_lt_of_lt_mul (by rwa [Nat.mul_comm])
      have hj : i % c.st < c.st := Nat.mod_lt _ hst
      have e : i / c.st * c.st + i % c.st = i := by rw [Nat.mul_comm]; exact Nat.div_add_mod i c.st
      obtain ⟨v, h3, h4⟩ := h2 _ _ hk hj
      rw [e, hu] at h3
      cases h3
      rw [e] at h4
      rw [add_at]; exact h4.1
    · obtain ⟨u, h3, h4⟩ := h2 k j hk hj; exact ⟨u, h3, h4.2.2⟩
  cases y with
  | os L =>
    obtain ⟨_, e⟩ := hr
    cases e
    simp only [srcA] at hc
    split at hc
    · rename_i e' c' hLb
      have hL := St.lv_at (hl L rfl) hLb
      cases hc
      have hlv : ∀ k j M, k < (c'.ld L).len → j < (c'.ld L).st → ((c'.ld L).cell k j).has M → s.lv M := fun k j M hk hj hM => by
        rw [ld_len] at hk
        rw [ld_st] at hj
        rw [ld_cell] at hM
        exact ldc_lv h hL hk hj hM
      rcases h.blks L _ hL with ⟨h0, A, e1⟩ | ⟨bk, o, cap, us, e1, hpos, h1, h2, h3, h4⟩
      · exact ⟨A, 0, [], by rw [e1, ld_len, h0], by simp [ld_len, h0], fun u hu => (by cases hu), fun hp => (by rw [ld_len] at hp; omega), fun k j hk => (by rw [ld_len] at hk; omega), hlv, fun _ => by rw [ld_len]; exact h0⟩
      · obtain ⟨news, n1, n2, n3, n4⟩ := key bk o (fun k j hk hj => by
          rw [ld_len] at hk
          rw [ld_st] at hj ⊢
          obtain ⟨u, h5, h6, h7⟩ := h4 k j hk hj
          exact ⟨u, by rw [cell_heap h2]; exact h5, h6, by rw [ld_cell]; exact ldc_rep h7⟩)
        exact ⟨_, cap, news, by rw [e1, ld_len], n1, n2, fun _ => ⟨_, rfl, n3⟩, n4, hlv, fun h => by cases h⟩
    · cases hc
  | ri f q xs =>
    cases hc
    obtain ⟨A, cap, e, h1, h2⟩ := hr
    cases e
    have hlv : ∀ k j M, k < (Ct.ints q xs).len → j < (Ct.ints q xs).st → ((Ct.ints q xs).cell k j).has M → s.lv M := fun k j M _ _ hM => hM.elim
    by_cases h0 : 0 < xs.length
    · obtain ⟨bk, o, rfl, h3, h4, h5⟩ := h2 h0
      obtain ⟨news, n1, n2, n3, n4⟩ := key bk o (fun k j hk hj => by
        have hj' : j < 1 := hj
        obtain rfl : j = 0 := by omega
        exact ⟨.int q (xs.getD k 0), by have := h5 k hk; simpa [Ct.st] using this, rfl, rfl⟩)
      exact ⟨_, cap, news, rfl, n1, n2, fun _ => ⟨_, rfl, n3⟩, n4, hlv, fun h => by cases h⟩
    · have h0' : xs.length = 0 := by omega
      exact ⟨A, cap, [], rfl, by simp [Ct.len, h0'], fun u hu => (by cases hu), fun hp => absurd hp h0, fun k j hk => absurd hk (by simp [Ct.len, h0']), hlv, fun _ => h0'⟩
  | rs f n st cell =>
    cases hc
    obtain ⟨A, cap, e, h1, h2⟩ := hr
    cases e
    by_cases h0 : 0 < n
    · obtain ⟨bk, o, rfl, h3, h4, h5⟩ := h2 h0
      obtain ⟨news, n1, n2, n3, n4⟩ := key bk o (fun k j hk hj => by
        obtain ⟨u, h6, h7, h8⟩ := h5 k j hk hj
        exact ⟨u, h6, h7, h8.ro (ow_mono _ _)⟩)
      exact ⟨_, cap, news, rfl, n1, n2, fun _ => ⟨_, rfl, n3⟩, n4, fun k j M hk hj hM => by
        obtain ⟨u, h6, h7, h8⟩ := h5 k j hk hj
        exact absurd hM h8.has_ro, fun h => by cases h⟩
    · have h0' : n = 0 := by omega
      exact ⟨A, cap, [], rfl, by simp [Ct.len, h0'], fun u hu => (by cases hu), fun hp => absurd hp h0, fun k j hk => absurd hk (by simp [Ct.len, h0']), fun k j M hk => absurd hk (by simp [Ct.len, h0']), fun _ => h0'⟩
  | _ => cases hc

theorem app_spec {c c2 c' : Ct} (h : c.app c2 = some c') (hs : c2.st = c.st) : c'.len = c.len + c2.len ∧ c'.st = c.st ∧ (∀ k j, k < c.len → j < c.st → c'.cell k j = c.cell k j) ∧ (∀ k j, k < c2.len → j < c.st → c'.cell (c.len + k) j = c2.cell k j) ∧
    (∀ k j M, k < c'.len → j < c.st → (c'.cell k j).has M → (k < c.len ∧ (c.cell k j).has M) ∨ ∃ k', k' < c2.len ∧ (c2.cell k' j).has M) := by
  cases c with
  | ints q xs =>
    cases c2 with
    | ints q' ys =>
      simp only [Ct.app] at h
      cases hd : decide (q' = q) with
      | false => rw [hd] at h; cases h
      | true =>
        rw [hd] at h
        cases h
        obtain rfl := of_decide_eq_true hd
        refine ⟨by simp [Ct.len], rfl, fun k j hk hj => ?_, fun k j hk hj => ?_, fun k j M _ _ hM => hM.elim⟩
        · have hk' : k < xs.length := hk
          simp [Ct.cell, ci, List.getElem?_append_left hk']
        · simp [Ct.cell, ci, Ct.len, List.getElem?_append_right (Nat.le_add_right xs.length k)]
    | _ => cases h
  | bools xs =>
    cases c2 with
    | bools ys =>
      cases h
      refine ⟨by simp [Ct.len], rfl, fun k j hk hj => ?_, fun k j hk hj => ?_, fun k j M _ _ hM => hM.elim⟩
      · have hk' : k < xs.length := hk
        simp [Ct.cell, cb, List.getElem?_append_left hk']
      · simp [Ct.cell, cb, Ct.len, List.getElem?_append_right (Nat.le_add_right xs.length k)]
    | _ => cases h
  | tab n st cell =>
    cases c2 with
    | tab m st' cell' =>
      simp only [Ct.app] at h
      cases hd : Nat.beq st' st with
      | false => rw [hd] at h; cases h
      | true =>
        rw [hd] at h
        cases h
        refine ⟨rfl, rfl, fun k j hk hj => ?_, fun k j hk hj => ?_, fun k j M hk hj hM => ?_⟩
        · have hk' : k < n := hk
          simp [Ct.cell, blt_of hk']
        · have : Nat.blt (n + k) n = false := by
            cases hb : Nat.blt (n + k) n with
            | false => rfl
            | true => have := blt_pos hb; omega
          simp [Ct.cell, Ct.len, this]
        · have hM' : (bif Nat.blt k n then cell k j else cell' (k - n) j).has M := hM
          cases hb : Nat.blt k n with
          | true => rw [hb] at hM'; exact .inl ⟨blt_pos hb, hM'⟩
          | false =>
            rw [hb] at hM'
            have hk' : k < n + m := hk
            have hn : ¬ k < n := fun h => by rw [blt_of h] at hb; cases hb
            exact .inr ⟨k - n, by show k - n < m; omega, hM'⟩
    | _ => cases h

theorem run_append0 {t : TypeId} {ty e : TypeId} {i : TypeInfo} (ht : P.underlying t = some (.slice e)) (hi : P.info? e = some i) {A B : Option Addr} {n cap c : Nat} (hn : n ≤ cap) :
    (Builtin.append_ #[t, t] ty #[.slice A n cap, .slice B 0 c]).run P w = .ok (.slice A n cap) w := by
  cases A <;> cases B <;> simp [Builtin.append_, run_underlying ht, sizeOf, typeInfo, hi, Builtin.lenOf, Builtin.firstCells, loadCells, loadCellsFrom, hn, storeCells]
theorem run_append_room' {t ty e : TypeId} {i : TypeInfo} (ht : P.underlying t = some (.slice e)) (hi : P.info? e = some i) {g o n cap : Nat} {us : List Value} (hg : w.heap[g]? = some (.cells us.toArray e (0, 0)))
    {a : Addr} {m c : Nat} {news : List Value} (hl : news.length = m * i.size) (hnews : ∀ j u, news[j]? = some u → w.cell? (a.add j) = some u) (h1 : ∀ u ∈ news, u.oneCell' = true) (hroom : n + m ≤ cap) (hfit : o + n * i.size + news.length ≤ us.length) :
    (Builtin.append_ #[t, t] ty #[.slice (some ⟨g, o, none⟩) n cap, .slice (some a) m c]).run P w =
      .ok (.slice (some ⟨g, o, none⟩) (n + m) cap) (w.setRow g (us.take (o + n * i.size) ++ news ++ us.drop (o + n * i.size + news.length)).toArray) := by
  have hf := run_firstCells_some (P := P) w i.size m a m c news hl hnews
  have hst := run_storeCells_at P g (o + n * i.size) e news 0 us.toArray w hg (by simpa using hfit) h1
  simp only [Nat.add_zero] at hst
  simp [Builtin.append_, run_underlying ht, sizeOf, typeInfo, hi, Builtin.lenOf, hroom, hf, Addr.add_lit, hst]

/-- What append leaves: the old slice and its cells; in the old block, in a new one, or nothing at all. -/
theorem run_append_any {t : Nat} {i e : TyI} (hi : tyChk P t i = true) (he : tyChk P i.elem e = true) (hne : i.elem ≠ 0) (hsz : 0 < e.size) (hby : e.bytes ≤ 256) (ty : TypeId) {A B : Option Addr} {n cap m c2 : Nat} {olds news : List Value}
    (hn : n ≤ cap) (hA : A = none → n = 0 ∧ cap = 0) (hB : 0 < m → ∃ a, B = some a ∧ ∀ j u, news[j]? = some u → w.cell? (a.add j) = some u) (hl : news.length = m * e.size) (h1 : ∀ u ∈ news, u.oneCell' = true) (hb : n + m ≤ 1073741824)
    (hold : ∀ a, A = some a → 0 < cap → ∃ bk o us, a = ⟨bk, o, none⟩ ∧ w.heap[bk]? = some (.cells (List.toArray us) i.elem (0, 0)) ∧ o + cap * e.size ≤ us.length ∧ olds = (us.drop o).take (n * e.size)) (holen : olds.length = n * e.size) :
    (m = 0 ∧ (Builtin.append_ #[t, t] ty #[.slice A n cap, .slice B m c2]).run P w = .ok (.slice A n cap) w) ∨
    (∃ bk o us, A = some ⟨bk, o, none⟩ ∧ 0 < cap ∧ w.heap[bk]? = some (.cells (List.toArray us) i.elem (0, 0)) ∧ n + m ≤ cap ∧ o + cap * e.size ≤ us.length ∧ olds = (us.drop o).take (n * e.size) ∧
      (Builtin.append_ #[t, t] ty #[.slice A n cap, .slice B m c2]).run P w = .ok (.slice A (n + m) cap) (w.setRow bk (us.take (o + n * e.size) ++ news ++ us.drop (o + n * e.size + news.length)).toArray)) ∨
    (∃ cap' rest, n + m ≤ cap' ∧ (olds ++ news ++ rest).length = cap' * e.size ∧
      (Builtin.append_ #[t, t] ty #[.slice A n cap, .slice B m c2]).run P w = .ok (.slice (some ⟨w.heap.size, 0, none⟩) (n + m) cap') (w.drew.alloc (.cells (olds ++ news ++ rest).toArray i.elem))) := by
  have hu := tyChk_elem hi hne
  obtain ⟨inf, z, i1, i2, i3, i4, i5⟩ := tyChk_info he
  have hzl : z.cells.size = e.size := by rw [← tyChk_zero he, zero_len i5]; simp
  rcases Nat.eq_zero_or_pos m with rfl | hm
  · exact .inl ⟨rfl, run_append0 hu i1 hn⟩
  · right
    obtain ⟨a, rfl, hnews⟩ := hB hm
    have hl' : news.length = m * inf.size := by rw [i2]; exact hl
    cases A with
    | none =>
      obtain ⟨rfl, rfl⟩ := hA rfl
      have ho : olds = [] := List.eq_nil_of_length_eq_zero (by simpa using holen)
      subst ho
      right
      have hr := run_append_nil (P := P) w t ty i.elem inf z hu i1 i4 a m c2 news hl' hnews hm (by omega) (by
        rw [i3]
        have : m * e.bytes ≤ 1073741824 * 256 := Nat.mul_le_mul (by omega) hby
        omega)
      have hge := grownCap_ge w m 0 i.elem
      refine ⟨grownCap w m 0 i.elem, (Builtin.zeroCells z.cells (grownCap w m 0 i.elem - m)).toList, by simpa using hge, ?_, ?_⟩
      · simp only [List.nil_append, List.length_append, Array.length_toList, size_zeroCells, hzl, hl, ← Nat.add_mul]
        congr 1; omega
      · rw [Nat.zero_add, hr]
        congr 3
        apply Array.ext'
        simp
    | some a0 =>
      rcases Nat.eq_zero_or_pos cap with hcap0 | hcap
      · have hn0 : n = 0 := by omega
        subst hn0
        have ho : olds = [] := List.eq_nil_of_length_eq_zero (by simpa using holen)
        subst ho
        right
        have hr := run_append_grow (P := P) w t ty i.elem inf z hu i1 i4 a0 0 cap [] (by simp) (fun j v hv => by simp at hv) a m c2 news hl' hnews (by omega) (by omega) (growslice_fits (by omega) (by
          rw [i3]
          have : (0 + m) * e.bytes ≤ 1073741824 * 256 := Nat.mul_le_mul hb hby
          omega))
        have hge := grownCap_ge w (0 + m) cap i.elem
        refine ⟨grownCap w (0 + m) cap i.elem, (Builtin.zeroCells z.cells (grownCap w (0 + m) cap i.elem - (0 + m))).toList, hge, ?_, ?_⟩
        · simp only [List.nil_append, List.length_append, Array.length_toList, size_zeroCells, hzl, hl, ← Nat.add_mul]
          congr 1; omega
        · rw [hr]
          congr 3
          apply Array.ext'
          simp
      obtain ⟨bk, o, us, rfl, h2, h3, h4⟩ := hold a0 rfl hcap
      by_cases hroom : n + m ≤ cap
      · left
        have hfit : o + n * inf.size + news.length ≤ us.length := by
          rw [i2, hl]
          have := Nat.mul_le_mul_right e.size hroom
          rw [Nat.add_mul] at this
          omega
        have hr := run_append_room' (P := P) (ty := ty) (c := c2) hu i1 h2 hl' hnews h1 hroom hfit
        rw [i2] at hr
        exact ⟨bk, o, us, rfl, hcap, h2, hroom, h3, h4, hr⟩
      · right
        have holds : ∀ j v, olds[j]? = some v → w.cell? ((⟨bk, o, none⟩ : Addr).add j) = some v := fun j v hv => by
          rw [add_at, cell_heap h2]
          rw [h4, List.getElem?_take] at hv
          split at hv
          · rw [List.getElem?_drop] at hv; exact hv
          · cases hv
        have hr := run_append_grow (P := P) w t ty i.elem inf z hu i1 i4 ⟨bk, o, none⟩ n cap olds (by rw [i2]; exact holen) holds a m c2 news hl' hnews (by omega) (by omega) (growslice_fits (by omega) (by
          rw [i3]
          have : (n + m) * e.bytes ≤ 1073741824 * 256 := Nat.mul_le_mul hb hby
          omega))
        have hge := grownCap_ge w (n + m) cap i.elem
        refine ⟨grownCap w (n + m) cap i.elem, (Builtin.zeroCells z.cells (grownCap w (n + m) cap i.elem - (n + m))).toList, hge, ?_, ?_⟩
        · simp only [List.length_append, Array.length_toList, size_zeroCells, hzl, hl, holen, ← Nat.add_mul]
          congr 1; omega
        · rw [hr]
          congr 3
          apply Array.ext'
          simp

/-- The row that append leaves. -/
theorem row_appended {own' : Bool → Nat → Prop} {γ' : Nm → Value} {N : Nm} {Q : Nm → Bool} {e size : Nat} {c c2 c' : Ct} {olds news us rest : List Value} {bk o cap' : Nat} (hsize : 0 < size) (hst : c.st = size) (hst2 : c2.st = size) (happ : c.app c2 = some c')
    (holen : olds.length = c.len * size) (hl : news.length = c2.len * size) (hN : γ' N = .slice (some ⟨bk, o, none⟩) (c.len + c2.len) cap') (hpos : 0 < cap') (hcap : c.len + c2.len ≤ cap') (hheap : w'.heap[bk]? = some (.cells us.toArray e (0, 0))) (hfit : o + cap' * size ≤ us.length)
    (hus : us.drop o = olds ++ news ++ rest) (ho1 : ∀ k j, k < c.len → j < size → ∃ u, olds[k * size + j]? = some u ∧ u.oneCell' = true ∧ CellR w' own' γ' N k j ((c.cell k j).kill Q) u)
    (hn1 : ∀ k j, k < c2.len → j < size → ∃ u, news[k * size + j]? = some u ∧ Reps w' own' γ' ((c2.cell k j).kill Q) .o [u]) (hn2 : ∀ u ∈ news, u.oneCell' = true) : BlkOk w' own' γ' N ((Blk.row e c').kill Q) := by
  obtain ⟨a1, a2, a3, a4, a5⟩ := app_spec happ (hst2.trans hst.symm)
  refine .inr ⟨bk, o, cap', us, by rw [Ct.kill_len, a1]; exact hN, hpos, by rw [Ct.kill_len, a1]; exact hcap, hheap, by rw [Ct.kill_st, a2, hst]; exact hfit, fun k j hk hj => ?_⟩
  rw [Ct.kill_len, a1] at hk
  rw [Ct.kill_st, a2, hst] at hj ⊢
  rw [Ct.kill_cell, ← List.getElem?_drop, hus, List.append_assoc]
  by_cases hlt : k < c.len
  · obtain ⟨u, h1, h2, h3⟩ := ho1 k j hlt hj
    refine ⟨u, ?_, h2, by rw [a3 k j hlt (by omega)]; exact h3⟩
    rw [List.getElem?_append_left (List.getElem?_eq_some_iff.1 h1).1]; exact h1
  · obtain ⟨k', rfl⟩ : ∃ k', k = c.len + k' := ⟨k - c.len, by omega⟩
    obtain ⟨u, h1, h3⟩ := hn1 k' j (by omega) hj
    refine ⟨u, ?_, hn2 u (List.mem_of_getElem? h1), by rw [a4 k' j (by omega) (by omega)]; exact .of h3⟩
    have e : (c.len + k') * size + j = olds.length + (k' * size + j) := by rw [holen, Nat.add_mul]; omega
    rw [e, List.getElem?_append_right (Nat.le_add_right _ _), Nat.add_sub_cancel_left, List.getElem?_append_left (List.getElem?_eq_some_iff.1 h1).1]
    exact h1

theorem append_os (h : Sim E s act w γ) {t : Nat} {i e : TyI} (hi : tyChk P t i = true) (he : tyChk P i.elem e = true) (hne : i.elem ≠ 0) (hsz : 0 < e.size) (hby : e.bytes ≤ 256) (ty : TypeId) {R : Nat} (hlow : low ≤ R) {c c2 c' : Ct} {y : AV} {vy : Value}
    (hN : s.at (rt R) (.row i.elem c)) (hy : Reps w (E.ow (s.own γ)) γ y .o [vy]) (hly : s.live y) (hc2 : srcA s y = some c2) (hst : c.st = e.size) (hst2 : c2.st = e.size) (happ : c.app c2 = some c') (hlen : c'.len ≤ 1073741824) :
    ∃ v w' γ', (Builtin.append_ #[t, t] ty #[γ (rt R), vy]).run P w = .ok v w' ∧ Sim E ((s.kill (atR R)).setB R (some ((Blk.row i.elem c').kill (atR R)))) act w' γ' ∧ v = γ' (rt R) := by
  obtain ⟨a1, a2, a3, a4, a5⟩ := app_spec happ (hst2.trans hst.symm)
  obtain ⟨B, capy, news, rfl, n1, n2, n3, n4, n5, n6⟩ := src_sound h hy hly hc2 (by omega)
  rw [hst2] at n1 n4 n5
  have hk := h.kill (atR R)
  have hkN : (s.kill (atR R)).at (rt R) ((Blk.row i.elem c).kill (atR R)) := of_kill.2 ⟨_, hN, rfl⟩
  have hq := quiet_kill s R
  have nosub : ∀ k j, k < c2.len → j < c.st → (c2.cell k j).sub = none := fun k j hk1 hj1 => by
    obtain ⟨u, _, h3⟩ := n4 k j hk1 (by omega)
    exact sub_cell_none h3
  have mx : ∀ M, ((Blk.row i.elem c').kill (atR R)).has M → M.r ≠ R ∧ (s.kill (atR R)).lv M := fun M hM => by
    obtain ⟨⟨k, j, hk1, hj1, hM1⟩, hM2⟩ := hasB_kill hM
    refine ⟨atR_ne hM2, lv_kill.2 ?_⟩
    have hj2 : j < c.st := by rw [a2] at hj1; exact hj1
    rcases a5 k j M hk1 hj2 hM1 with ⟨hk2, hM3⟩ | ⟨k', hk2, hM3⟩
    · exact h.wf.blk _ _ M hN ⟨k, j, hk2, hj2, hM3⟩
    · exact n5 k' j M hk2 (by omega) hM3
  have hsub : ∀ p z, p ≠ [] → ((Blk.row i.elem c').kill (atR R)).At p z → (s.kill (atR R)).at ⟨R, p⟩ z := fun p z hp hz => by
    obtain ⟨z0, h1, rfl⟩ := at_kill.1 hz
    refine of_kill.2 ⟨z0, ?_, rfl⟩
    cases p with
    | nil => exact absurd rfl hp
    | cons q p =>
      obtain ⟨k, j⟩ := q
      obtain ⟨e2, c3, y, he2, g1, g2, g3, g4⟩ := h1
      cases he2
      rw [a2] at g2
      have hkl : k < c.len := by
        rcases Nat.lt_or_ge k c.len with h5 | h5
        · exact h5
        · rw [show k = c.len + (k - c.len) by omega, a4 (k - c.len) j (by omega) g2, nosub _ _ (by omega) g2] at g3; cases g3
      rw [a3 k j hkl g2] at g3
      have := (at_below (r := (k, j) :: p) hN).2 ⟨_, c, y, rfl, hkl, g2, g3, g4⟩
      simpa using this
  -- the old slice
  obtain ⟨A, cap, olds, e1, o1, o2, o3, o4, o5⟩ : ∃ A cap olds, γ (rt R) = .slice A c.len cap ∧ c.len ≤ cap ∧ (A = none → c.len = 0 ∧ cap = 0) ∧
      (∀ a, A = some a → 0 < cap → ∃ bk o us, a = ⟨bk, o, none⟩ ∧ w.heap[bk]? = some (.cells (List.toArray us) i.elem (0, 0)) ∧ o + cap * e.size ≤ us.length ∧ olds = (us.drop o).take (c.len * e.size)) ∧
      (olds : List Value).length = c.len * e.size ∧ ∀ k j, k < c.len → j < e.size → ∃ u, olds[k * e.size + j]? = some u ∧ u.oneCell' = true ∧ CellR w (E.ow (s.own γ)) γ (rt R) k j (c.cell k j) u := by
    rcases h.blks _ _ hN with ⟨h0, A, e1⟩ | ⟨bk, o, cap, us, e1, hpos, h1, h2, h3, h4⟩
    · exact ⟨A, 0, [], by rw [e1, h0], by omega, (fun _ => ⟨h0, rfl⟩), (fun a ha hp => by omega), by simp [h0], (fun k j hk => by omega)⟩
    · rw [hst] at h3 h4
      have hle : c.len * e.size ≤ cap * e.size := Nat.mul_le_mul_right _ h1
      refine ⟨_, cap, (us.drop o).take (c.len * e.size), e1, h1, (fun h => by cases h), (fun a ha _ => ⟨bk, o, us, (by cases ha; rfl), h2, h3, rfl⟩), (by simp; omega), fun k j hk hj => ?_⟩
      obtain ⟨u, h5, h6, h7⟩ := h4 k j hk hj
      have hlt : k * e.size + j < c.len * e.size := by
        have := Nat.mul_le_mul_right e.size (show k + 1 ≤ c.len by omega)
        rw [Nat.succ_mul] at this; omega
      exact ⟨u, by rw [List.getElem?_take, if_pos hlt, List.getElem?_drop]; exact h5, h6, h7⟩
  have hkids : ∀ {g : Value} {i j : Nat}, upd γ (rt R) g ((rt R).kid i j) = γ ((rt R).kid i j) := fun {g i j} => upd_ne _ _ (fun e => by have := congrArg Nm.p e; simp [Nm.kid] at this)
  have hnone : ∀ {own' : Bool → Nat → Prop} {w' : World} {g : Value}, Keeps w w' (E.ow (s.own γ)) own' →
      (∀ k j, k < c.len → j < e.size → ∃ u, olds[k * e.size + j]? = some u ∧ u.oneCell' = true ∧ CellR w' own' (upd γ (rt R) g) (rt R) k j ((c.cell k j).kill (atR R)) u) ∧
      (∀ k j, k < c2.len → j < e.size → ∃ u, news[k * e.size + j]? = some u ∧ Reps w' own' (upd γ (rt R) g) ((c2.cell k j).kill (atR R)) .o [u]) := fun hkp => by
    refine ⟨fun k j hk hj => ?_, fun k j hk hj => ?_⟩
    · obtain ⟨u, h1, h2, h3⟩ := o5 k j hk hj
      exact ⟨u, h1, h2, h3.kill.keep hkp (fun M hM => upd_ne _ _ (fun e => atR_ne (has_kill hM).2 (by rw [e]))) (fun _ => hkids)⟩
    · obtain ⟨u, h1, h3⟩ := n4 k j hk hj
      exact ⟨u, h1, (h3.kill.keep hkp).gam (fun _ M hM => upd_ne _ _ (fun e => atR_ne (has_kill hM).2 (by rw [e])))⟩
  have hrun := run_append_any (P := P) (w := w) (c2 := capy) hi he hne hsz hby ty o1 o2 n3 n1 n2 (by omega) o3 o4
  have hlvR : (s.kill (atR R)).lv (rt R) := ⟨_, hkN⟩
  have ownS : (s.kill (atR R)).own γ = s.own γ := own_kill
  rw [e1]
  rcases hrun with ⟨hm, hr⟩ | ⟨bk, o, us, rfl, hpos, h2, hroom, hfit, hold, hr⟩ | ⟨cap', rest, hcap, hlen', hr⟩
  · refine ⟨_, w, upd γ (rt R) (γ (rt R)), hr, ?_, by rw [upd_at, e1]⟩
    refine hk.replace hlow hq rfl rfl rfl (Nat.le_refl _) (fun _ _ _ => rfl) (fun bk hb => .inr ⟨hlvR, hb⟩) mx hsub (fun hkp => ?_)
    rw [ownS] at hkp
    obtain ⟨q1, q2⟩ := hnone (g := γ (rt R)) hkp
    have hnews : news = [] := List.eq_nil_of_length_eq_zero (by rw [n1, hm]; simp)
    rcases Nat.eq_zero_or_pos cap with hc0 | hpos
    · exact .inl ⟨by rw [Ct.kill_len, a1]; omega, A, by rw [upd_at, e1, hc0, show c.len = 0 by omega]⟩
    · cases A with
      | none => have := (o2 rfl).2; omega
      | some a =>
        obtain ⟨bk, o, us, rfl, h2, h3, h4⟩ := o3 a rfl hpos
        refine row_appended hsz hst hst2 happ o4 n1 (us := us) (bk := bk) (o := o) (cap' := cap) (rest := (us.drop o).drop (c.len * e.size)) (by rw [upd_at, e1, hm]; rfl) hpos (by omega) h2 h3 ?_ q1 q2 n2
        rw [hnews, h4, List.append_nil, List.take_append_drop]
  · refine ⟨_, _, upd γ (rt R) (.slice (some ⟨bk, o, none⟩) (c.len + c2.len) cap), hr, ?_, by rw [upd_at]⟩
    have hbN : blkOf (γ (rt R)) = some bk := by rw [e1, blkOf_slice hpos]
    refine hk.replace hlow hq rfl rfl rfl (Nat.le_of_eq (setRow_size _ _ _).symm) (fun k _ hne' => setRow_other w bk k _ (fun e2 => hne' hlvR (by rw [e2]; exact hbN))) (fun b hb => .inr ⟨hlvR, by rw [blkOf_slice hpos] at hb; cases hb; exact hbN⟩) mx hsub (fun hkp => ?_)
    rw [ownS] at hkp
    obtain ⟨q1, q2⟩ := hnone (g := .slice (some ⟨bk, o, none⟩) (c.len + c2.len) cap) hkp
    have hfit2 : o + c.len * e.size + news.length ≤ us.length := by
      rw [n1]
      have := Nat.mul_le_mul_right e.size hroom
      rw [Nat.add_mul] at this
      omega
    refine row_appended hsz hst hst2 happ o4 n1 (rest := us.drop (o + c.len * e.size + news.length)) (upd_at _ _ _) hpos hroom (setRow_heap w bk _ _ _ _ h2) ?_ ?_ q1 q2 n2
    · simp only [List.length_append, List.length_take, List.length_drop]; omega
    · rw [List.append_assoc, List.append_assoc, List.drop_append_of_le_length (by simp; omega), hold]
      congr 1
      rw [List.drop_take]
      simp
  · refine ⟨_, _, upd γ (rt R) (.slice (some ⟨w.heap.size, 0, none⟩) (c.len + c2.len) cap'), hr, ?_, by rw [upd_at]⟩
    have hsize : (w.drew.alloc (.cells (olds ++ news ++ rest).toArray i.elem)).heap.size = w.heap.size + 1 := by simp
    have hsame : ∀ k, k < w.heap.size → (w.drew.alloc (.cells (olds ++ news ++ rest).toArray i.elem)).heap[k]? = w.heap[k]? := fun k hk => Below.heap_alloc w.drew _ k hk
    refine hk.replace hlow hq rfl rfl rfl (by omega) (fun k hk _ => hsame k hk) (fun b hb => .inl ?_) mx hsub (fun hkp => ?_)
    · rcases Nat.eq_zero_or_pos cap' with h0 | h0
      · rw [h0, blkOf_slice0] at hb; cases hb
      · rw [blkOf_slice h0] at hb
        have hb' : w.heap.size = b := by simpa using hb
        omega
    · rw [ownS] at hkp
      obtain ⟨q1, q2⟩ := hnone (g := .slice (some ⟨w.heap.size, 0, none⟩) (c.len + c2.len) cap') hkp
      rcases Nat.eq_zero_or_pos cap' with h0 | h0
      · exact .inl ⟨by rw [Ct.kill_len, a1]; omega, _, by rw [upd_at, h0, show c.len + c2.len = 0 by omega]⟩
      · exact row_appended hsz hst hst2 happ o4 n1 (rest := rest) (upd_at _ _ _) h0 hcap (heap_alloc_new w.drew _) (by simpa using Nat.le_of_eq hlen'.symm) (by simp) q1 q2 n2
end
end Go.Proofs.Ytbncmiglhjfcdaa
