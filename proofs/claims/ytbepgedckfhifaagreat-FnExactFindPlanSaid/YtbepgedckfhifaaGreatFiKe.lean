/-
  Contracts told otherwise: what is handed over is only read from now on.
-/
import Derived.Test.YtbepgedckfhifaaGreatFiJb
namespace Go.Proofs.YtbepgedckfhifaaGreat
open Go.RowKit
set_option linter.unusedVariables false
set_option linter.unusedSimpArgs false
set_option maxRecDepth 100000
set_option maxHeartbeats 4000000
attribute [local irreducible] Fn
theorem stoN {s : St} {size : Nat} {a x : AV} {K : St → Prop} {N : Nm} {st k j : Nat} {e : TypeId} {c c' : Ct} (ha : a = .oe N st k j) (hb : s.blk N = some (.row e c)) (h1 : (x.flat && Nat.beq x.cells.len size && Nat.ble (j + size) st && Nat.beq c.st st && mvOk (mvOf s N j x.cells)) = true) (h2 : ownCells c k j size = false) (h3 : c.set k j x.cells = some c') (hp : k < c.len) (hK : Nx (K ((s.setN N (.row e c')).mvs N k (mvOf s N j x.cells)))) :
    (match stoA s size a x with | .ok p s' => p ∧ Nx (K s') | .bad => False) := by
  subst ha
  have : stoA s size (.oe N st k j) x = .ok (k < c.len) ((s.setN N (.row e c')).mvs N k (mvOf s N j x.cells)) := by
    simp only [stoA, hb, h1, h2, h3, cond_true, cond_false]
  rw [this]
  exact ⟨hp, hK⟩
theorem Fn.ff {P : Program} {f : Nat} {nw : Bool} {a : AV} {σ σ' : List (Nat × Blk)} {x : Bool} (h : Fn P f nw a σ (.b x) σ') (hx : x = false) : Fn P f nw a σ .ff σ' := by
  subst hx
  unfold Fn at h ⊢
  exact ⟨h.1, fun E vs h1 h2 h3 => (h.2 E vs h1 h2 h3).mono fun e w' ⟨v, γ, k1, k2, k3, k4, k5, k6⟩ => ⟨v, γ, k1, k2, k3, k4, k5, k6⟩⟩
abbrev ints_T_i64 (x : List Int) : AV := .cons (.ri true .i64 x) .nil
def AV.fz : AV → AV → AV
  | .cons a l, y => .cons (a.fz y) (l.fz y)
  | .agg l, y => .agg (l.fz y)
  | .tup l, y => .tup (l.fz y)
  | .fn _ _, _ => .top
  | .op _ _, _ => .top
  | .om _, _ => .top
  | .os N, y => bif Nat.beq N.r 16 then (match N.p with | [] => y | _ :: _ => .top) else .top
  | .oe _ _ _ _, _ => .top
  | a, _ => a
theorem Reps.fz {w : World} {own own' : Bool → Nat → Prop} {γ : Nm → Value} {y : AV} (hk : Keeps w w own own') (hy : Reps w own' γ y .o [γ (rt 16)]) : ∀ {a : AV} {vs : List Value}, Reps w own γ a .o vs → Reps w own' γ (a.fz y) .o vs := by
  intro a
  induction a with
  | cons a l iha ihl => rintro vs ⟨v, us, e, h1, h2⟩; exact ⟨v, us, e, iha h1, ihl h2⟩
  | agg l ih => rintro vs ⟨us, e, h1⟩; exact ⟨us, e, ih h1⟩
  | tup l ih => rintro vs ⟨us, e, h1⟩; exact ⟨us, e, ih h1⟩
  | fn f l ih => rintro vs ⟨us, e, h1⟩; exact ⟨_, e⟩
  | op L j => rintro vs ⟨r, e, h1⟩; exact ⟨_, e⟩
  | om L => rintro vs ⟨r, e⟩; exact ⟨_, e⟩
  | oe L st k j => rintro vs ⟨r, e, h1⟩; exact ⟨_, e⟩
  | os N =>
    rintro vs ⟨r, e⟩
    obtain ⟨n, p⟩ := N
    unfold AV.fz
    cases hb : Nat.beq n 16 with
    | false => exact ⟨_, e⟩
    | true =>
      obtain rfl := Nat.eq_of_beq_eq_true hb
      cases p with
      | nil => rw [e]; exact hy
      | cons q p => exact ⟨_, e⟩
  | _ => intro vs h1; exact h1.keep hk
theorem new_fz {y : AV} (hn : y.new) : ∀ {a : AV}, a.new → (a.fz y).new := by
  intro a
  induction a with
  | cons a l iha ihl => rintro ⟨h1, h2⟩; exact ⟨iha h1, ihl h2⟩
  | agg l ih => exact ih
  | tup l ih => exact ih
  | os N =>
    intro _
    unfold AV.fz
    cases Nat.beq N.r 16 with
    | false => exact trivial
    | true =>
      show AV.new (match N.p with | [] => y | _ :: _ => .top)
      split
      · exact hn
      · exact trivial
  | fn f l ih => intro _; exact trivial
  | op L j => intro _; exact trivial
  | om L => intro _; exact trivial
  | oe L st k j => intro _; exact trivial
  | _ => intro h; exact h
theorem has_fz {y : AV} (hh : ∀ N, ¬ y.has N) : ∀ {a : AV} {N : Nm}, ¬ (a.fz y).has N := by
  intro a
  induction a with
  | cons a l iha ihl => exact fun h => h.elim iha ihl
  | agg l ih => exact ih
  | tup l ih => exact ih
  | os M =>
    intro N h
    unfold AV.fz at h
    cases hb : Nat.beq M.r 16 with
    | false => rw [hb] at h; exact h
    | true =>
      rw [hb] at h
      have h : AV.has N (match M.p with | [] => y | _ :: _ => .top) := h
      split at h
      · exact hh N h
      · exact h
  | _ => intro N h; exact h
section
variable {P : Program} {f : Nat} {a r : AV}
theorem fz_new {E : Ent0} {nw : Bool} {w' : World} {σ : List (Nat × Blk)} {γ : Nm → Value} (hP : Pre E []) (h : Post E nw w' σ γ) {N : Nm} {x : Blk} {bk : Nat} (hN : AtL (lkx σ) N x) (hb : blkOf (γ N) = some bk) : bk < w'.heap.size ∧ E.w.heap.size ≤ bk := by
  obtain ⟨h1, h2⟩ := h.mine N x bk hN hb
  refine ⟨h1, h2.elim id (fun h => ?_)⟩
  rw [hP.b] at h
  obtain ⟨_, _, ⟨_, h, _⟩, _⟩ := h
  cases h
theorem fz_not {E : Ent0} {p : Nat → Prop} {bk : Nat} (h : E.w.heap.size ≤ bk) (hp : ¬ p bk) (g : Bool) : ¬ E.ow p g bk := by
  rintro (h1 | h1 | ⟨_, h1⟩)
  · exact hp h1
  · have := E.zlt bk h1; omega
  · omega
theorem ri_of {w : World} {own own' : Bool → Nat → Prop} {γ γ' : Nm → Value} {N : Nm} {T : TypeId} {k : IntKind} {xs : List Int} (h : BlkOk w own γ N (.row T (.ints k xs))) (hb : ∀ bk, blkOf (γ N) = some bk → bk < w.heap.size ∧ ¬ own' true bk) : Reps w own' γ' (.ri true k xs) .o [γ N] := by
  rcases h with ⟨h0, A, e⟩ | ⟨bk, o, cap, us, e, hp, hc, h1, h2, h3⟩
  · have h0 : xs.length = 0 := h0
    exact ⟨A, 0, by rw [e, h0], by omega, fun h => by omega⟩
  · have hc : xs.length ≤ cap := hc
    obtain ⟨g1, g2⟩ := hb bk (by rw [e, blkOf_slice hp])
    refine ⟨some ⟨bk, o, none⟩, cap, by rw [e]; rfl, hc, fun _ => ⟨bk, o, rfl, g1, g2, fun j hj => ?_⟩⟩
    obtain ⟨u, h4, h5, h6⟩ := h3 j 0 hj Nat.one_pos
    have h6 : [u] = [Value.int k (xs.getD j 0)] := h6.rep rfl
    rw [cell_heap h1, ← (List.cons.inj h6).1, ← h4]
    show us[o + j]? = us[o + (j * 1 + 0)]?
    rw [Nat.mul_one, Nat.add_zero]
theorem Fn.fzK {e : TypeId} {n : Nat} {xs : List (List Int)} (h : Fn P f true a [] r [(16, .row e (.tab n 1 (cellsA ints_O_i64 xs)))]) (hr : ∀ N, r.has N → N = rt 16) : Fn P f true a [] r [(16, .row e (.tab n 1 (cellsA ints_T_i64 xs)))] := by
  unfold Fn at h ⊢
  refine ⟨h.1, fun E vs hP h0 hn => (h.2 E vs hP h0 hn).mono ?_⟩
  rintro ex w' ⟨v, γ, h1, h2, h3, h4, h5, h6⟩
  have hR : AtL (lkx [(16, Blk.row e (.tab n 1 (cellsA ints_O_i64 xs)))]) (rt 16) (.row e (.tab n 1 (cellsA ints_O_i64 xs))) := ⟨_, rfl, rfl⟩
  have hK : ∀ j, j < n → AtL (lkx [(16, Blk.row e (.tab n 1 (cellsA ints_O_i64 xs)))]) ⟨16, [(j, 0)]⟩ (.row 3 (.ints .i64 (xs.getD j default))) := fun j hj => ⟨_, rfl, _, _, _, rfl, hj, Nat.zero_lt_one, rfl, rfl⟩
  have hR2 : AtL (lkx [(16, Blk.row e (.tab n 1 (cellsA ints_T_i64 xs)))]) (rt 16) (.row e (.tab n 1 (cellsA ints_T_i64 xs))) := ⟨_, rfl, rfl⟩
  have cs : ∀ N x, AtL (lkx [(16, Blk.row e (.tab n 1 (cellsA ints_T_i64 xs)))]) N x → N = rt 16 ∧ x = .row e (.tab n 1 (cellsA ints_T_i64 xs)) := by
    rintro ⟨R, p⟩ x ⟨y, g1, g2⟩
    have g1 : (bif Nat.beq 16 R then some (Blk.row e (.tab n 1 (cellsA ints_T_i64 xs))) else none) = some y := g1
    cases hb : Nat.beq 16 R with
    | false => rw [hb] at g1; cases g1
    | true =>
      rw [hb] at g1
      cases g1
      obtain rfl := Nat.eq_of_beq_eq_true hb
      cases p with
      | nil => exact ⟨rfl, g2⟩
      | cons q p =>
        obtain ⟨i, j⟩ := q
        obtain ⟨_, _, _, k0, k1, k2, k3, _⟩ := g2
        cases k0
        have k2 : j < 1 := k2
        obtain rfl : j = 0 := by omega
        cases k3
  have mono : ∀ b, ownL [(16, Blk.row e (.tab n 1 (cellsA ints_T_i64 xs)))] γ b → ownL [(16, Blk.row e (.tab n 1 (cellsA ints_O_i64 xs)))] γ b := by
    rintro b ⟨N, x, g1, g2⟩
    obtain ⟨rfl, _⟩ := cs N x g1
    exact ⟨_, _, hR, g2⟩
  have kp : Keeps w' w' (E.ow (ownL [(16, Blk.row e (.tab n 1 (cellsA ints_O_i64 xs)))] γ)) (E.ow (ownL [(16, Blk.row e (.tab n 1 (cellsA ints_T_i64 xs)))] γ)) := ⟨Nat.le_refl _, fun _ _ _ _ => rfl, fun g k _ hn h => hn (h.imp (mono k) id)⟩
  have hnew : ∀ i j, i < n → j < 1 → (cellsA ints_T_i64 xs i j).new := fun i j _ hj => by
    obtain rfl : j = 0 := by omega
    exact rfl
  refine ⟨v, γ, h1, h2, ⟨fun N x hN => ?_, fun N x bk hN hb => ?_, fun N M x y bk hN hM hb hc => ?_, fun M x N hM hN => ?_, fun L x hL hx => ?_⟩, h4.keep kp, h5, fun N hN => ⟨_, (hr N hN).symm ▸ hR2⟩⟩
  · obtain ⟨rfl, rfl⟩ := cs N x hN
    refine ⟨?_, fun _ => hnew⟩
    rcases (h3.blks _ _ hR).1 with ⟨g0, A, g1⟩ | ⟨bk, o, cap, us, g1, hp, hc, g2, g3, g4⟩
    · exact .inl ⟨g0, A, g1⟩
    · refine .inr ⟨bk, o, cap, us, g1, hp, hc, g2, g3, fun k j hk hj => ?_⟩
      obtain ⟨u, k1, k2, k3⟩ := g4 k j hk hj
      have hj : j < 1 := hj
      obtain rfl : j = 0 := by omega
      have k3 : u = γ ⟨16, [(k, 0)]⟩ := k3
      refine ⟨u, k1, k2, .of ?_⟩
      rw [k3]
      show Reps _ _ _ (.ri true .i64 (xs.getD k default)) .o _
      refine ri_of ((h3.blks _ _ (hK k hk)).1) (fun b hb => ?_)
      obtain ⟨m1, m2⟩ := fz_new hP h3 (hK k hk) hb
      refine ⟨m1, fz_not m2 (fun ho => ?_) true⟩
      obtain ⟨N, x, o1, o2⟩ := ho
      obtain ⟨rfl, _⟩ := cs N x o1
      have := h3.inj _ _ _ _ b (hK k hk) hR hb o2
      cases this
  · obtain ⟨rfl, rfl⟩ := cs N x hN
    exact h3.mine _ _ bk hR hb
  · obtain ⟨rfl, _⟩ := cs N x hN
    obtain ⟨rfl, _⟩ := cs M y hM
    rfl
  · obtain ⟨rfl, rfl⟩ := cs M x hM
    obtain ⟨k, j, _, hj, h⟩ := hN
    have hj : j < 1 := hj
    obtain rfl : j = 0 := by omega
    exact h.elim
  · have hx : (bif Nat.beq 16 L then some (Blk.row e (.tab n 1 (cellsA ints_T_i64 xs))) else none) = some x := hx
    cases hb : Nat.beq 16 L with
    | false => rw [hb] at hx; cases hx
    | true =>
      have := Nat.eq_of_beq_eq_true hb
      unfold low at hL
      omega
theorem Fn.fz {x : Blk} {y : AV} (h : Fn P f true a [] r [(16, x)]) (hy : ∀ (E : Ent0) (w' : World) (γ : Nm → Value), Pre E [] → Post E true w' [(16, x)] γ → Reps w' (E.ow (ownL [] γ)) γ y .o [γ (rt 16)]) (hn : y.new) (hh : ∀ N, ¬ y.has N) : Fn P f true a [] (r.fz y) [] := by
  unfold Fn at h ⊢
  refine ⟨h.1, fun E vs hP h0 hn0 => (h.2 E vs hP h0 hn0).mono ?_⟩
  rintro ex w' ⟨v, γ, h1, h2, h3, h4, h5, h6⟩
  have none : ∀ {N z}, ¬ AtL (lkx []) N z := fun ⟨_, h, _⟩ => by cases h
  have kp : Keeps w' w' (E.ow (ownL [(16, x)] γ)) (E.ow (ownL [] γ)) := ⟨Nat.le_refl _, fun _ _ _ _ => rfl, fun g k _ hn h => hn (h.imp (fun ⟨N, z, g, _⟩ => (none g).elim) id)⟩
  exact ⟨v, γ, h1, h2, ⟨fun N x hN => (none hN).elim, fun N x bk hN _ => (none hN).elim, fun N M x y bk hN _ _ _ => (none hN).elim, fun M x N hM _ => (none hM).elim, fun L x _ hx => by cases hx⟩, Reps.fz kp (hy E w' γ hP h3) h4, fun g => new_fz hn (h5 g), fun N hN => (has_fz hh hN).elim⟩
theorem nil_not {E : Ent0} {γ : Nm → Value} {bk : Nat} (h : E.w.heap.size ≤ bk) (g : Bool) : ¬ E.ow (ownL [] γ) g bk := fz_not h (fun ⟨_, _, ⟨_, h, _⟩, _⟩ => by cases h) g
theorem Fn.fzI {T : TypeId} {k : IntKind} {xs : List Int} (h : Fn P f true a [] r [(16, .row T (.ints k xs))]) : Fn P f true a [] (r.fz (.ri true k xs)) [] := by
  refine h.fz (fun E w' γ hP h3 => ?_) rfl (fun N h => h)
  have hR : AtL (lkx [(16, Blk.row T (.ints k xs))]) (rt 16) (.row T (.ints k xs)) := ⟨_, rfl, rfl⟩
  exact ri_of (h3.blks _ _ hR).1 (fun bk hb => (fz_new hP h3 hR hb).imp id (fun h => nil_not h true))
theorem Fn.fzR {e : TypeId} {n : Nat} {xs : List (List Int)} (h : Fn P f true a [] r [(16, .row e (.tab n 1 (cellsA ints_T_i64 xs)))]) : Fn P f true a [] (r.fz (.rs true n 1 (cellsA ints_T_i64 xs))) [] := by
  refine h.fz (fun E w' γ hP h3 => ?_) rfl (fun N h => h)
  have hR : AtL (lkx [(16, Blk.row e (.tab n 1 (cellsA ints_T_i64 xs)))]) (rt 16) (.row e (.tab n 1 (cellsA ints_T_i64 xs))) := ⟨_, rfl, rfl⟩
  have kp : Keeps w' w' (E.ow (ownL [(16, Blk.row e (.tab n 1 (cellsA ints_T_i64 xs)))] γ)) (E.ow (ownL [] γ)) := ⟨Nat.le_refl _, fun _ _ _ _ => rfl, fun g k _ hn h => hn (h.imp (fun ⟨N, z, ⟨_, g, _⟩, _⟩ => by cases g) id)⟩
  rcases (h3.blks _ _ hR).1 with ⟨g0, A, g1⟩ | ⟨bk, o, cap, us, g1, hp, hc, g2, g3, g4⟩
  · have g0 : n = 0 := g0
    exact ⟨A, 0, by rw [g1, g0], by omega, fun h => by omega⟩
  · obtain ⟨m1, m2⟩ := fz_new hP h3 hR (by rw [g1, blkOf_slice hp])
    refine ⟨_, cap, by rw [g1]; rfl, hc, fun _ => ⟨bk, o, rfl, m1, nil_not m2 true, fun k j hk hj => ?_⟩⟩
    obtain ⟨u, k1, k2, k3⟩ := g4 k j hk hj
    have hj : j < 1 := hj
    obtain rfl : j = 0 := by omega
    refine ⟨u, by rw [cell_heap g2]; exact k1, k2, ?_⟩
    have k3 : Reps w' _ γ (.ri true .i64 (xs.getD k default)) .o [u] := k3.rep rfl
    exact k3.keep kp
end
end Go.Proofs.YtbepgedckfhifaaGreat
