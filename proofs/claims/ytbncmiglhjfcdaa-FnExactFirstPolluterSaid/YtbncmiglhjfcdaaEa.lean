/-
  Arguments opened, as what they say.
-/
import Derived.Test.YtbncmiglhjfcdaaOpen
import Derived.Test.YtbncmiglhjfcdaaOpen2
import Derived.Test.YtbncmiglhjfcdaaCz
namespace Go.Proofs.Ytbncmiglhjfcdaa
open Go.ChangeShapes Go.WideShapes Go.ChangeAt Go.RowKit Go.Deep
set_option linter.unusedVariables false

/-- The cells of a value of type t: they say A x, for some x. -/
def Opn (P : Program) (t n : Nat) {X : Type} (ok : X → Prop) (A : X → AV) : Prop :=
  ∀ (H : Type) (enc : TypeId × Value → H) (w : World) (base : Nat) (spare : Nat → Bool) (held : Bool) (fuel : Nat) (cs : List Value) (y : DataW H × List MemPlace), DataW.trod enc P w base spare held fuel t cs = some y →
    ∃ x : X, ok x ∧ cs.length = n ∧ (∀ u ∈ cs, u.oneCell' = true) ∧ ∀ (own : Bool → Nat → Prop) (γ : Nm → Value) (m : Md), (∀ b, ¬ own false b) → m.fr false = false → Reps w own γ (A x) m cs
/-- The fields from a cell on. -/
def OpnF (P : Program) (fs : List (Nat × Nat)) (i n : Nat) {X : Type} (ok : X → Prop) (A : X → AV) : Prop :=
  ∀ (H : Type) (enc : TypeId × Value → H) (w : World) (base : Nat) (spare : Nat → Bool) (held : Bool) (cs : List Value), (∀ f ∈ fs, ∃ fuel y, DataW.trod enc P w base spare held fuel f.2 ((cs.drop f.1).take (P.cellsOf f.2)) = some y) → cs.length = i + n →
    ∃ x : X, ok x ∧ (∀ u ∈ cs.drop i, u.oneCell' = true) ∧ ∀ (own : Bool → Nat → Prop) (γ : Nm → Value) (m : Md), (∀ b, ¬ own false b) → m.fr false = false → Reps w own γ (A x) m (cs.drop i)

section
variable {P : Program}
theorem opn_int {k : IntKind} {t : Nat} (ht : P.underlying t = some (.int k)) : Opn P t 1 (fun n : Int => (Lit.int k n).wf = true) (fun n => .cons (.int k n) .nil) := by
  intro H enc w base spare held fuel cs y h
  obtain ⟨n, rfl, _, h2⟩ := DataW.trod_int ht h
  exact ⟨n, h2, rfl, fun u hu => by cases List.mem_singleton.1 hu; rfl, fun own γ m _ _ => ⟨_, _, rfl, rfl, rfl⟩⟩
theorem opn_bool {t : Nat} (ht : P.underlying t = some .bool) : Opn P t 1 (fun _ : Bool => True) (fun b => .cons (.b b) .nil) := by
  intro H enc w base spare held fuel cs y h
  obtain ⟨b, rfl, _⟩ := DataW.trod_bool ht h
  exact ⟨b, trivial, rfl, fun u hu => by cases List.mem_singleton.1 hu; rfl, fun own γ m _ _ => ⟨_, _, rfl, rfl, rfl⟩⟩
theorem opn_string {t : Nat} (ht : P.underlying t = some .string) : Opn P t 1 (fun s : ByteArray => s.size ≤ maxLen) (fun s => .cons (.s s) .nil) := by
  intro H enc w base spare held fuel cs y h
  obtain ⟨s, rfl, _, h2⟩ := DataW.trod_string ht h
  exact ⟨s, h2, rfl, fun u hu => by cases List.mem_singleton.1 hu; rfl, fun own γ m _ _ => ⟨_, _, rfl, rfl, rfl⟩⟩
theorem opnF_nil {i : Nat} : OpnF P [] i 0 (fun _ : Unit => True) (fun _ => .nil) := by
  intro H enc w base spare held cs _ hl
  have : cs.drop i = [] := List.drop_eq_nil_of_le (by omega)
  exact ⟨(), trivial, by rw [this]; exact (fun u hu => (by cases hu)), fun own γ m _ _ => this⟩
theorem opnF_cons {X Y : Type} {ok : X → Prop} {A : X → AV} {okr : Y → Prop} {B : Y → AV} {t i n m : Nat} {fs : List (Nat × Nat)} (hn : P.cellsOf t = n) (h : Opn P t n ok A) (hr : OpnF P fs (i + n) m okr B) :
    OpnF P ((i, t) :: fs) i (n + m) (fun x : X × Y => ok x.1 ∧ okr x.2) (fun x => (A x.1).app (B x.2)) := by
  intro H enc w base spare held cs hf hl
  obtain ⟨fuel, y, hy⟩ := hf (i, t) (by simp)
  obtain ⟨x, h1, h2, h3, h4⟩ := h H enc w base spare held fuel _ y hy
  obtain ⟨z, g1, g3, g4⟩ := hr H enc w base spare held cs (fun f hf' => hf f (by simp [hf'])) (by omega)
  have e : cs.drop i = ((cs.drop i).take n) ++ cs.drop (i + n) := by rw [← List.drop_drop, List.take_append_drop]
  simp only [hn] at h2 h3 h4
  refine ⟨(x, z), ⟨h1, g1⟩, fun u hu => ?_, fun own γ m' h5 h6 => ?_⟩
  · rw [e] at hu
    rcases List.mem_append.1 hu with hu | hu
    · exact h3 u hu
    · exact g3 u hu
  · rw [e]; exact (h4 own γ m' h5 h6).app (g4 own γ m' h5 h6)
theorem opn_struct {X : Type} {ok : X → Prop} {A : X → AV} {t n : Nat} {fs : Array Field} (ht : P.underlying t = some (.struct fs)) (hn : P.cellsOf t = n) (h : OpnF P (fs.toList.map fun f => (f.offset, f.type)) 0 n ok A) : Opn P t n ok A := by
  intro H enc w base spare held fuel cs y hy
  obtain ⟨k, hl, hf⟩ := inner_struct ht hy
  obtain ⟨x, h1, h2, h3⟩ := h H enc w base spare held cs (fun f hf' => by
    obtain ⟨g, hg, rfl⟩ := List.mem_map.1 hf'
    obtain ⟨j, hj, rfl⟩ := List.getElem_of_mem hg
    obtain ⟨y', hy'⟩ := hf j fs[j] (by simp at hj ⊢)
    exact ⟨k, y', by simpa using hy'⟩) (by omega)
  exact ⟨x, h1, by omega, by simpa using h2, by simpa using h3⟩
/-- A slice, whatever its elements. -/
theorem opn_slice {X : Type} [Inhabited X] {ok : X → Prop} {A : X → AV} {t e n : Nat} (ht : P.underlying t = some (.slice e)) (hn : P.cellsOf e = n) (h0 : 0 < n) (h : Opn P e n ok A) :
    Opn P t 1 (fun xs : List X => xs.length ≤ maxLen ∧ ∀ x ∈ xs, ok x) (fun xs => .cons (.rs false xs.length n (fun k j => (A (xs.getD k default)).nth j)) .nil) := by
  intro H enc w base spare held fuel cs y hy
  obtain ⟨a, len, c, els, rfl, hc, hm, hl, hrd, hel⟩ := inner_slice ht hn h0 hy
  have hx : ∀ el ∈ els, ∃ x : X, ok x ∧ el.length = n ∧ (∀ u ∈ el, u.oneCell' = true) ∧ ∀ (own : Bool → Nat → Prop) (γ : Nm → Value) (m : Md), (∀ b, ¬ own false b) → m.fr false = false → Reps w own γ (A x) m el := fun el he => by
    obtain ⟨_, k, y, hy⟩ := hel el he
    exact h H enc w base spare held k el y hy
  have key : ∀ els : List (List Value), (∀ el ∈ els, ∃ x : X, ok x ∧ el.length = n ∧ (∀ u ∈ el, u.oneCell' = true) ∧ ∀ (own : Bool → Nat → Prop) (γ : Nm → Value) (m : Md), (∀ b, ¬ own false b) → m.fr false = false → Reps w own γ (A x) m el) →
      ∃ xs : List X, xs.length = els.length ∧ (∀ x ∈ xs, ok x) ∧ ∀ (k : Nat) (el : List Value), els[k]? = some el → el.length = n ∧ (∀ u ∈ el, u.oneCell' = true) ∧ ∀ (own : Bool → Nat → Prop) (γ : Nm → Value) (m : Md), (∀ b, ¬ own false b) → m.fr false = false → Reps w own γ (A (xs.getD k default)) m el := by
    intro els
    induction els with
    | nil => intro _; exact ⟨[], rfl, (fun x hx => (by cases hx)), (fun k el h => (by simp at h))⟩
    | cons el els ih =>
      intro hall
      obtain ⟨x, h1, h2, h3, h4⟩ := hall el (by simp)
      obtain ⟨xs, g1, g2, g3⟩ := ih (fun e he => hall e (by simp [he]))
      refine ⟨x :: xs, by simp [g1], fun z hz => ?_, fun k el' hk => ?_⟩
      · rcases List.mem_cons.1 hz with rfl | hz
        · exact h1
        · exact g2 z hz
      · cases k with
        | zero => simp at hk; subst hk; exact ⟨h2, h3, h4⟩
        | succ k => simpa using g3 k el' (by simpa using hk)
  obtain ⟨xs, g1, g2, g3⟩ := key els hx
  have hlen : xs.length = len := by rw [g1, hl]
  refine ⟨xs, ⟨by omega, g2⟩, rfl, fun u hu => by cases List.mem_singleton.1 hu; rfl, fun own γ m ho hm' => ⟨_, _, rfl, ⟨a, c, by rw [hlen], by omega, fun hpos => ?_⟩, rfl⟩⟩
  obtain ⟨b, o, e1, e2, e3⟩ := hrd.2 (by omega)
  refine ⟨b, o, e1, e2, by rw [hm']; exact ho b, fun k j hk hj => ?_⟩
  have hk' : k < els.length := by omega
  obtain ⟨f1, f2, f3⟩ := g3 k els[k] (List.getElem?_eq_getElem hk')
  have hr := f3 own γ (.r (m.fr false)) ho (by rw [hm']; rfl)
  have hln : (A (xs.getD k default)).len = n := by rw [← hr.len]; exact f1
  obtain ⟨u, k1, k2⟩ := hr.nth (by rw [hln]; exact hj)
  refine ⟨u, e3 _ u ?_, f2 u (List.mem_of_getElem? k1), k2⟩
  have hl2 : ∀ el ∈ els, el.length = n := fun el he => (hel el he).1
  have fl : ∀ (els : List (List Value)), (∀ el ∈ els, el.length = n) → ∀ (k : Nat) (el : List Value), els[k]? = some el → els.flatten[k * n + j]? = el[j]? := by
    intro els
    induction els with
    | nil => intro _ k el h; simp at h
    | cons e0 els ih =>
      intro hall k el h
      rw [List.flatten_cons]
      cases k with
      | zero =>
        simp at h; subst h
        rw [Nat.zero_mul, Nat.zero_add, List.getElem?_append_left (by rw [hall _ (by simp)]; exact hj)]
      | succ k =>
        rw [List.getElem?_append_right (by rw [hall e0 (by simp), Nat.succ_mul]; omega), hall e0 (by simp), show (k + 1) * n + j - n = k * n + j by rw [Nat.succ_mul]; omega]
        exact ih (fun e he => hall e (by simp [he])) k el (by simpa using h)
  rw [fl els hl2 k els[k] (List.getElem?_eq_getElem hk')]
  exact k1
/-- A slice of integers. -/
theorem opn_ints {k : IntKind} {t e : Nat} (ht : P.underlying t = some (.slice e)) (he : P.underlying e = some (.int k)) (hn : P.cellsOf e = 1) :
    Opn P t 1 (fun xs : List Int => xs.length ≤ maxLen ∧ ∀ x ∈ xs, (Lit.int k x).wf = true) (fun xs => .cons (.ri false k xs) .nil) := by
  intro H enc w base spare held fuel cs y hy
  obtain ⟨xs, h1, h2, h3, h4⟩ := opn_slice ht hn (by omega) (opn_int he) H enc w base spare held fuel cs y hy
  refine ⟨xs, h1, h2, h3, fun own γ m ho hm => ?_⟩
  obtain ⟨v, us, e1, ⟨a, c, e2, hc, e3⟩, e4⟩ := h4 own γ m ho hm
  refine ⟨v, us, e1, ⟨a, c, e2, hc, fun hpos => ?_⟩, e4⟩
  obtain ⟨bk, o, k1, k2, k3, k4⟩ := e3 hpos
  refine ⟨bk, o, k1, k2, k3, fun i hi => ?_⟩
  obtain ⟨u, k5, _, k6⟩ := k4 i 0 hi (by omega)
  have k7 : u = .int k (xs.getD i default) := by simpa [AV.nth, Reps] using k6
  rw [k7] at k5
  simpa using k5

section
variable {X : Type} {ok : X → Prop} {A : X → AV} {H : Type} {enc : TypeId × Value → H} {w : World} {base : Nat} {spare : Nat → Bool} {held : Bool} {r : Reach} {b0 : Nat} {t n : Nat} {v : Value} {d : DataW H} {p : List MemPlace}
def Says (w : World) (v : Value) (a : AV) : Prop := ∀ (own : Bool → Nat → Prop) (γ : Nm → Value), (∀ b, ¬ own false b) → Reps w own γ a .o [v]
theorem arg_struct {fs : Array Field} (ht : P.underlying t = some (.struct fs)) (ho : Opn P t n ok A) (hv : Value.okWide P w r b0 t v) (h : DataW.Trod enc P w base spare held t v d p) : ∃ x, ok x ∧ Says w v (.agg (A x)) := by
  obtain ⟨fuel, hf⟩ := h
  obtain ⟨⟨l⟩, rfl, hsz⟩ := okWide_struct ht hv
  obtain ⟨x, h1, _, _, h4⟩ := ho H enc w base spare held fuel _ _ hf
  exact ⟨x, h1, fun own γ hb => ⟨l, rfl, by simpa [Value.cells] using h4 own γ .o hb rfl⟩⟩
theorem arg_one (hc : v.cells.toList = [v]) (ho : Opn P t n ok (fun x => .cons (A x) .nil)) (h : DataW.Trod enc P w base spare held t v d p) : ∃ x, ok x ∧ Says w v (A x) := by
  obtain ⟨fuel, hf⟩ := h
  obtain ⟨x, h1, _, _, h4⟩ := ho H enc w base spare held fuel _ _ hf
  refine ⟨x, h1, fun own γ hb => ?_⟩
  have h5 := h4 own γ .o hb rfl
  rw [hc] at h5
  obtain ⟨v', us, e, h6, h7⟩ := h5
  cases e; exact h6
theorem arg_slice {e : Nat} (ht : P.underlying t = some (.slice e)) (ho : Opn P t n ok (fun x => .cons (A x) .nil)) (hv : Value.okWide P w r b0 t v) (h : DataW.Trod enc P w base spare held t v d p) : ∃ x, ok x ∧ Says w v (A x) := by
  obtain ⟨a, l, c, rfl⟩ := okWide_slice ht hv
  exact arg_one rfl ho h
theorem arg_int {k : IntKind} (ht : P.underlying t = some (.int k)) (hv : Value.okWide P w r b0 t v) (h : DataW.Trod enc P w base spare held t v d p) : ∃ x : Int, (Lit.int k x).wf = true ∧ Says w v (.int k x) := by
  obtain ⟨a, rfl⟩ := okWide_int ht hv
  exact arg_one rfl (opn_int ht) h
theorem arg_bool (ht : P.underlying t = some .bool) (hv : Value.okWide P w r b0 t v) (h : DataW.Trod enc P w base spare held t v d p) : ∃ x : Bool, True ∧ Says w v (.b x) := by
  obtain ⟨a, rfl⟩ := okWide_bool ht hv
  exact arg_one rfl (opn_bool ht) h
theorem arg_string (ht : P.underlying t = some .string) (hv : Value.okWide P w r b0 t v) (h : DataW.Trod enc P w base spare held t v d p) : ∃ x : ByteArray, x.size ≤ maxLen ∧ Says w v (.s x) := by
  obtain ⟨a, rfl⟩ := okWide_string ht hv
  exact arg_one rfl (opn_string ht) h
end
end

theorem says_nil {w : World} : ∀ (own : Bool → Nat → Prop) (γ : Nm → Value), (∀ b, ¬ own false b) → Reps w own γ .nil .o [] := fun _ _ _ => rfl
theorem says_cons {w : World} {v : Value} {vs : List Value} {a l : AV} (h : Says w v a) (hl : ∀ (own : Bool → Nat → Prop) (γ : Nm → Value), (∀ b, ¬ own false b) → Reps w own γ l .o vs) :
    ∀ (own : Bool → Nat → Prop) (γ : Nm → Value), (∀ b, ¬ own false b) → Reps w own γ (.cons a l) .o (v :: vs) := fun own γ hb => ⟨v, vs, rfl, h own γ hb, hl own γ hb⟩
/-- From a function's contract to the law's walk. -/
theorem law_of {k : Nat} {A : AV} {vs : List Value} {W : World} (hF : Fn Try.prog k true A [] .tt []) (hn : ∀ N, ¬ A.has N) (hs : ∀ (own : Bool → Nat → Prop) (γ : Nm → Value), (∀ b, ¬ own false b) → Reps W own γ A .o vs) :
    Calls Try.prog k vs.toArray W fun e W' => e = .returned (.bool true) ∧ Below W.heap.size W W' := by
  have none : ∀ N x, ¬ AtL (lkx []) N x := fun N x ⟨y, h, _⟩ => by cases h
  have hown : ∀ b, ¬ ownL [] (fun _ => Value.bool false) b := fun b ⟨N, x, h, _⟩ => none N x h
  refine (hF.2 ⟨W, ownL [] (fun _ => Value.bool false), fun _ => Value.bool false, fun _ => False, fun b h => h.elim⟩ vs ⟨rfl, fun N x h => absurd h (none N x), fun N x bk h => absurd h (none N x), fun N M x y bk h => absurd h (none N x), fun M x N h => absurd h (none M x)⟩
    (hs _ _ (fun b h => h.elim (hown b) (fun h => h.elim id (fun h => by cases h.1)))) (fun N hN => absurd hN (hn N))).mono fun e W' => ?_
  rintro ⟨v, γ, rfl, hfr, _, hr, _⟩
  have : v = .bool true := by simpa [Reps] using hr
  subst this
  exact ⟨rfl, hfr.os, hfr.tape, hfr.output, hfr.size, fun k hk => hfr.block k hk (hown k)⟩
end Go.Proofs.Ytbncmiglhjfcdaa
