/-
  SoftB: what the typed trees of SoftA stand for in a world.
-/
import Derived.Test.YtlcebcpciagogaaSoftA
set_option linter.constructorNameAsVariable false
set_option linter.unusedVariables false
set_option linter.unusedSimpArgs false
namespace Go.Soft
open Go

theorem lk_map {α β : Type} (f : α → β) (l : List (Nat × α)) (n : Nat) : lk (l.map fun p => (p.1, f p.2)) n = (lk l n).map f := by
  induction l with
  | nil => rfl
  | cons p l ih => obtain ⟨k, v⟩ := p; simp only [List.map_cons, lk]; cases h : Nat.beq k n <;> simp [ih]

theorem nth_eq {α : Type} (l : List α) (n : Nat) : nth l n = l[n]? := by
  induction l generalizing n with
  | nil => cases n <;> rfl
  | cons x l ih => cases n with
    | zero => rfl
    | succ n => simpa [nth] using ih n

theorem cells_length (τ : Ty) (x : El τ) : (cells τ x).length = sz τ := by cases τ <;> rfl
theorem sz_pos (τ : Ty) : 0 < sz τ := by cases τ <;> decide
theorem cells_flat {τ : Ty} (h : τ.deep = false) (x : El τ) (ct : Ct) (hc : ct ∈ cells τ x) : ∀ σ ys, ct ≠ .l σ ys := by
  intro σ ys e; subst e; cases τ <;> simp_all [cells, Ty.deep]
theorem cells_nou {τ : Ty} (x : El τ) : Ct.u ∉ cells τ x := by cases τ <;> simp [cells]
theorem cells_deep {τ : Ty} (x : El τ) (σ : Ty) (ys : List (El σ)) (hc : Ct.l σ ys ∈ cells τ x) : σ.deep = false := by
  cases τ <;> simp [cells] at hc <;> obtain ⟨rfl, _⟩ := hc <;> rfl

/-! ### whose the blocks are -/
/-- v: a variable's, r: a row's own, n: what a row's cell points to, fz: frozen, x: what this function does not come to -/
inductive Ow | v (k : Nat) | r (k : Nat) | n (r e c : Nat) | fz | x deriving DecidableEq
abbrev OM := Nat → Option Ow
structure Gh where
  O : OM
  rv : Nat → Value
  cv : Nat → List Value
  vb : Nat → Nat

inductive Cls | bor | fz | own (t : Ow)
def In : Cls → Option Ow → Prop
  | .bor, o => o = none ∨ o = some .fz
  | .fz, o => o = some .fz
  | .own t, o => o = some t

/-- a slice of n elements of z cells each, whose cells are cs; its block is one that A holds of -/
def SlF (A : Nat → Prop) (w : World) (z : Nat) (v : Value) (n : Nat) (cs : List Value) : Prop :=
  cs.length = n * z ∧ ((v = .slice none 0 0 ∧ n = 0) ∨
    ∃ g off cap cur e fz, v = .slice (some ⟨g, off, none⟩) n cap ∧ w.heap[g]? = some (.cells cur e fz) ∧ A g ∧ n ≤ cap ∧ off + n * z ≤ cur.size ∧ (cur.toList.drop off).take (n * z) = cs)
def Sl (X : Ctx) (O : OM) (w : World) (c : Cls) (τ : Ty) (v : Value) (n : Nat) (cs : List Value) : Prop := match c with
  | .own t => w.ownsRow 0 (X.id τ) (sz τ) v n cs ∧ ∀ g, v.ownBlock = some g → O g = some t
  | c => SlF (fun g => In c (O g)) w (sz τ) v n cs

theorem SlF.mono {A B : Nat → Prop} {w w' : World} {z : Nat} {v : Value} {n : Nat} {cs : List Value} (h : SlF A w z v n cs)
    (hab : ∀ g o, w.heap[g]? = some o → A g → w'.heap[g]? = some o ∧ B g) : SlF B w' z v n cs := by
  refine ⟨h.1, ?_⟩
  rcases h.2 with hn | ⟨g, off, cap, cur, e, fz, hv, hg, ha, hr⟩
  · exact .inl hn
  · exact .inr ⟨g, off, cap, cur, e, fz, hv, (hab g _ hg ha).1, (hab g _ hg ha).2, hr⟩

theorem ownsRow_slF {w : World} {base : Nat} {e : TypeId} {z : Nat} {v : Value} {n : Nat} {cs : List Value} {A : Nat → Prop} (h : w.ownsRow base e z v n cs)
    (ha : ∀ g, v.ownBlock = some g → A g) : SlF A w z v n cs := by
  refine ⟨h.1, ?_⟩
  rcases h.2 with hn | ⟨g, cap, cur, hv, _, hg, hnc, _, hs, ht⟩
  · exact .inl hn
  · refine .inr ⟨g, 0, cap, cur, e, (0, 0), hv, hg, ha g (by simp [hv, Value.ownBlock]), hnc, ?_, by simpa using ht⟩
    rw [hs, Nat.zero_add]; exact Nat.mul_le_mul_right _ hnc

theorem Sl.slF {X : Ctx} {O : OM} {w : World} {c : Cls} {τ : Ty} {v : Value} {n : Nat} {cs : List Value} (h : Sl X O w c τ v n cs) : SlF (fun g => In c (O g)) w (sz τ) v n cs := by
  cases c with
  | own t => exact ownsRow_slF h.1 h.2
  | _ => exact h

def Cls.isOwn : Cls → Bool
  | .own _ => true
  | _ => false

theorem Sl.re {X : Ctx} {O O' : OM} {w w' : World} {c c' : Cls} {τ : Ty} {v : Value} {n : Nat} {cs : List Value} (h : Sl X O w c τ v n cs)
    (hab : ∀ g o, w.heap[g]? = some o → In c (O g) → w'.heap[g]? = some o ∧ In c' (O' g)) (hc : c'.isOwn = true → c.isOwn = true) : Sl X O' w' c' τ v n cs := by
  cases c' with
  | own t =>
    cases c with
    | own s =>
      obtain ⟨hr, ho⟩ := h
      refine ⟨⟨hr.1, ?_⟩, fun g hg => ?_⟩
      · rcases hr.2 with hn | ⟨g, cap, cur, hv, hb, hg, rest⟩
        · exact .inl hn
        · exact .inr ⟨g, cap, cur, hv, hb, (hab g _ hg (ho g (by simp [hv, Value.ownBlock]))).1, rest⟩
      · rcases hr.2 with ⟨hn, _⟩ | ⟨g', cap, cur, hv, hb, hg', rest⟩
        · simp [hn, Value.ownBlock] at hg
        · have : g = g' := by simpa [hv, Value.ownBlock] using hg.symm
          subst this
          exact (hab g _ hg' (ho g hg)).2
    | _ => simp [Cls.isOwn] at hc
  | _ => exact h.slF.mono hab

/-- a cell's value -/
def ctVal : Ct → Value
  | .b x => .bool x | .i k n => .int k n | .s x => .string x | _ => .slice none 0 0
def fcells (τ : Ty) (ys : List (El τ)) : List Value := ys.flatMap fun y => (cells τ y).map ctVal
def CellR (X : Ctx) (O : OM) (w : World) (c : Cls) : Ct → Value → Prop
  | .u, _ => False
  | .l τ ys, v => τ.deep = false ∧ Sl X O w c τ v ys.length (fcells τ ys)
  | x, v => v = ctVal x
def topC (k ow : Nat) : Cls := match ownK ow with | true => .own (.r k) | false => match ow with | 3 => .fz | _ => .bor
def nesC (k e c ow : Nat) : Cls := match ow with | 5 => .own (.n k e c) | 4 => .fz | 3 => .fz | _ => .bor

structure RowR (X : Ctx) (O : OM) (w : World) (k : Nat) (row : Row) (v : Value) (cs : List Value) : Prop where
  top : Sl X O w (topC k row.ow) row.τ v row.xs.length cs
  cel : ∀ e c ct, e < row.xs.length → (row.cs e)[c]? = some ct → ∃ u, cs[e * sz row.τ + c]? = some u ∧ CellR X O w (nesC k e c row.ow) ct u

theorem CellR.re {X : Ctx} {O O' : OM} {w w' : World} {c c' : Cls} {ct : Ct} {v : Value} (h : CellR X O w c ct v)
    (hab : ∀ g o, w.heap[g]? = some o → In c (O g) → w'.heap[g]? = some o ∧ In c' (O' g)) (hc : c'.isOwn = true → c.isOwn = true) : CellR X O' w' c' ct v := by
  cases ct with
  | u => exact h
  | l τ ys => exact ⟨h.1, h.2.re hab hc⟩
  | _ => exact h

theorem leK_top {d a : Nat} (h : leK d a = true) (k k' : Nat) : (topC k' d).isOwn = true → (topC k a).isOwn = true := by
  intro hd
  have h1 : ownK d = true := by
    cases hk : ownK d with
    | true => rfl
    | false =>
      exfalso; revert hd; simp only [topC, hk]
      intro hd; revert hd; split <;> simp_all [Cls.isOwn]
      all_goals (rename_i h; revert h; split <;> simp)
  have h2 : ownK a = true := by
    rcases d with _|_|_|_|_|_|d <;> simp_all [ownK, leK] <;> (revert h; split <;> simp_all [ownK])
  simp [topC, h2, Cls.isOwn]
theorem leK_nes {d a : Nat} (h : leK d a = true) (k k' e c : Nat) : (nesC k' e c d).isOwn = true → (nesC k e c a).isOwn = true := by
  intro hd
  have h1 : d = 5 := by
    revert hd; simp only [nesC]; split <;> simp [Cls.isOwn]
  subst h1
  have h2 : a = 5 := by revert h; simp only [leK]; split <;> simp_all
  subst h2; rfl

/-- a row, seen anew: elsewhere, under another key, for another kind -/
theorem RowR.re {X : Ctx} {O O' : OM} {w w' : World} {k k' ow' : Nat} {row : Row} {v : Value} {cs : List Value} (h : RowR X O w k row v cs) (hle : leK ow' row.ow = true)
    (htop : ∀ g o, w.heap[g]? = some o → In (topC k row.ow) (O g) → w'.heap[g]? = some o ∧ In (topC k' ow') (O' g))
    (hnes : ∀ e c g o, w.heap[g]? = some o → In (nesC k e c row.ow) (O g) → w'.heap[g]? = some o ∧ In (nesC k' e c ow') (O' g)) : RowR X O' w' k' { row with ow := ow' } v cs :=
  ⟨h.top.re htop (leK_top hle k k'), fun e c ct he hct => let ⟨u, hu, hr⟩ := h.cel e c ct he hct; ⟨u, hu, hr.re (hnes e c) (leK_nes hle k k' e c)⟩⟩

theorem leK_self {a : Nat} (h : a = 1 ∨ a = 2 ∨ a = 3 ∨ a = 4 ∨ a = 5) : leK a a = true := by rcases h with rfl | rfl | rfl | rfl | rfl <;> rfl

/-! ### what is seen of a slice -/
def CellV (A : Nat → Prop) (w : World) : Ct → Value → Prop
  | .u, _ => False
  | .l τ ys, v => τ.deep = false ∧ SlF A w (sz τ) v ys.length (fcells τ ys)
  | x, v => v = ctVal x
structure Vis (A : Nat → Prop) (w : World) (τ : Ty) (xs : List (El τ)) (v : Value) (cs : List Value) : Prop where
  top : SlF A w (sz τ) v xs.length cs
  cel : ∀ e c ct, e < xs.length → (cells τ (xs.getD e (dflt τ)))[c]? = some ct → ∃ u, cs[e * sz τ + c]? = some u ∧ CellV A w ct u
/-- a cell's content -/
def CtV (A : Nat → Prop) (w : World) : Ct → Value → Prop
  | .u, _ => True
  | .l τ xs, v => ∃ cs, Vis A w τ xs v cs
  | x, v => v = ctVal x

theorem CellV.mono {A B : Nat → Prop} {w w' : World} {ct : Ct} {v : Value} (h : CellV A w ct v) (hab : ∀ g o, w.heap[g]? = some o → A g → w'.heap[g]? = some o ∧ B g) : CellV B w' ct v := by
  cases ct with
  | u => exact h
  | l τ ys => exact ⟨h.1, h.2.mono hab⟩
  | _ => exact h
theorem Vis.mono {A B : Nat → Prop} {w w' : World} {τ : Ty} {xs : List (El τ)} {v : Value} {cs : List Value} (h : Vis A w τ xs v cs)
    (hab : ∀ g o, w.heap[g]? = some o → A g → w'.heap[g]? = some o ∧ B g) : Vis B w' τ xs v cs :=
  ⟨h.top.mono hab, fun e c ct he hc => let ⟨u, hu, hr⟩ := h.cel e c ct he hc; ⟨u, hu, hr.mono hab⟩⟩
theorem CtV.mono {A B : Nat → Prop} {w w' : World} {ct : Ct} {v : Value} (h : CtV A w ct v) (hab : ∀ g o, w.heap[g]? = some o → A g → w'.heap[g]? = some o ∧ B g) : CtV B w' ct v := by
  cases ct with
  | l τ xs => exact let ⟨cs, hv⟩ := h; ⟨cs, hv.mono hab⟩
  | _ => exact h

/-- of a row's family, or nobody's -/
def Fam (k : Nat) (o : Option Ow) : Prop := o = none ∨ o = some .fz ∨ o = some (.r k) ∨ ∃ e c, o = some (.n k e c)
theorem In_topC {k ow : Nat} {o : Option Ow} (h : In (topC k ow) o) : Fam k o := by
  revert h; simp only [topC]; split
  · exact fun h => .inr (.inr (.inl h))
  · split
    · exact fun h => .inr (.inl h)
    · exact fun h => h.elim .inl (fun h => .inr (.inl h))
theorem In_nesC {k e c ow : Nat} {o : Option Ow} (h : In (nesC k e c ow) o) : Fam k o := by
  revert h; simp only [nesC]; split
  · exact fun h => .inr (.inr (.inr ⟨e, c, h⟩))
  · exact fun h => .inr (.inl h)
  · exact fun h => .inr (.inl h)
  · exact fun h => h.elim .inl (fun h => .inr (.inl h))

theorem CellR.vis {X : Ctx} {O : OM} {w : World} {c : Cls} {ct : Ct} {v : Value} {A : Nat → Prop} (h : CellR X O w c ct v) (ha : ∀ g, In c (O g) → A g) : CellV A w ct v := by
  cases ct with
  | u => exact h
  | l τ ys => exact ⟨h.1, h.2.slF.mono fun g o hg hi => ⟨hg, ha g hi⟩⟩
  | _ => exact h
theorem RowR.vis {X : Ctx} {O : OM} {w : World} {k : Nat} {row : Row} {v : Value} {cs : List Value} (h : RowR X O w k row v cs) {A : Nat → Prop} (ha : ∀ g, Fam k (O g) → A g) : Vis A w row.τ row.xs v cs :=
  ⟨h.top.slF.mono fun g o hg hi => ⟨hg, ha g (In_topC hi)⟩, fun e c ct he hc => let ⟨u, hu, hr⟩ := h.cel e c ct he hc; ⟨u, hu, hr.vis fun g hi => ha g (In_nesC hi)⟩⟩

theorem Vis.of_bor {X : Ctx} {O : OM} {w : World} {k : Nat} {τ : Ty} {xs : List (El τ)} {v : Value} {cs : List Value} (h : Vis (fun g => In .bor (O g)) w τ xs v cs) : RowR X O w k ⟨τ, xs, 1⟩ v cs := by
  refine ⟨h.top, fun e c ct he hc => ?_⟩
  obtain ⟨u, hu, hr⟩ := h.cel e c ct he hc
  refine ⟨u, hu, ?_⟩
  cases ct with
  | u => exact hr
  | l σ ys => exact hr
  | _ => exact hr
theorem Vis.of_fz {X : Ctx} {O : OM} {w : World} {k : Nat} {τ : Ty} {xs : List (El τ)} {v : Value} {cs : List Value} (h : Vis (fun g => In .fz (O g)) w τ xs v cs) : RowR X O w k ⟨τ, xs, 3⟩ v cs := by
  refine ⟨h.top, fun e c ct he hc => ?_⟩
  obtain ⟨u, hu, hr⟩ := h.cel e c ct he hc
  refine ⟨u, hu, ?_⟩
  cases ct with
  | u => exact hr
  | l σ ys => exact hr
  | _ => exact hr

/-- a part of a slice -/
def SubV (z : Nat) (b : Value) (off len : Nat) (v : Value) : Prop :=
  (b = .slice none 0 0 ∧ v = .slice none 0 0 ∧ len = 0) ∨
  ∃ g o n cap o' cap', b = .slice (some ⟨g, o, none⟩) n cap ∧ v = .slice (some ⟨g, o', none⟩) len cap' ∧ (len ≤ cap' ∧ cap' = cap - off) ∧ o ≤ o' ∧ o' ≤ o + off * z ∧ (len = 0 ∨ o' = o + off * z)

theorem sub_length {α : Type} (xs : List α) {off len : Nat} (h : off + len ≤ xs.length) : (sub xs off len).length = len := by
  simp [sub]; omega
theorem sub_getD {α : Type} (xs : List α) {off len e : Nat} (d : α) (he : e < len) : (sub xs off len).getD e d = xs.getD (off + e) d := by
  simp [sub, List.getD, List.getElem?_take, he]

theorem SlF.sub {A : Nat → Prop} {w : World} {z : Nat} {v : Value} {n : Nat} {cs : List Value} (h : SlF A w z v n cs) {off len : Nat} (hle : off + len ≤ n) {u : Value} (hs : SubV z v off len u) :
    SlF A w z u len ((cs.drop (off * z)).take (len * z)) := by
  have hlen : ((cs.drop (off * z)).take (len * z)).length = len * z := by
    have h1 := h.1
    have h2 : (off + len) * z ≤ n * z := Nat.mul_le_mul_right _ hle
    rw [Nat.add_mul] at h2
    simp [List.length_take, List.length_drop]; omega
  refine ⟨hlen, ?_⟩
  rcases hs with ⟨_, hu, h0⟩ | ⟨g, o, n', cap, o', cap', hb, hu, hlc, ho1, ho2, ho3⟩
  · exact .inl ⟨hu, h0⟩
  · rcases h.2 with ⟨hn, _⟩ | ⟨g1, off1, cap1, cur, e, fz, hv, hg, ha, _, hsz, ht⟩
    · rw [hn] at hb; cases hb
    · rw [hv] at hb
      obtain ⟨rfl, rfl⟩ : g1 = g ∧ off1 = o := by
        injection hb with h1 _ _; injection h1 with h1; injection h1 with h1 h2 _; exact ⟨h1, h2⟩
      have h2 : (off + len) * z ≤ n * z := Nat.mul_le_mul_right _ hle
      rw [Nat.add_mul] at h2
      refine .inr ⟨g1, o', cap', cur, e, fz, hu, hg, ha, hlc.1, ?_, ?_⟩
      · rcases ho3 with h0 | h0
        · subst h0; simp; omega
        · omega
      · rcases ho3 with h0 | h0
        · subst h0; simp
        · subst h0
          rw [← ht, List.drop_take, List.take_take, List.drop_drop]
          congr 1; omega

theorem Vis.sub {A : Nat → Prop} {w : World} {τ : Ty} {xs : List (El τ)} {v : Value} {cs : List Value} (h : Vis A w τ xs v cs) {off len : Nat} (hle : off + len ≤ xs.length) {u : Value}
    (hs : SubV (sz τ) v off len u) : Vis A w τ (Soft.sub xs off len) u ((cs.drop (off * sz τ)).take (len * sz τ)) := by
  have hl := sub_length xs hle
  refine ⟨by rw [hl]; exact h.top.sub hle hs, fun e c ct he hc => ?_⟩
  rw [hl] at he
  rw [sub_getD xs _ he] at hc
  obtain ⟨x, hx, hr⟩ := h.cel (off + e) c ct (by omega) hc
  refine ⟨x, ?_, hr⟩
  have hc' : c < sz τ := by
    have := (List.getElem?_eq_some_iff.1 hc).1
    rwa [cells_length] at this
  have : e * sz τ + c < len * sz τ := by
    have := Nat.mul_le_mul_right (sz τ) (show e + 1 ≤ len from he)
    rw [Nat.add_mul] at this; omega
  rw [List.getElem?_take, if_pos this, List.getElem?_drop, ← hx]
  congr 1; rw [Nat.add_mul]; omega

theorem getElem?_flatMap_cells (τ : Ty) (ys : List (El τ)) : ∀ e c, e < ys.length → c < sz τ → (fcells τ ys)[e * sz τ + c]? = ((cells τ (ys.getD e (dflt τ)))[c]?).map ctVal := by
  induction ys with
  | nil => intro e c he; simp at he
  | cons y ys ih =>
    intro e c he hc
    have hl : ((cells τ y).map ctVal).length = sz τ := by simp [cells_length]
    simp only [fcells, List.flatMap_cons]
    cases e with
    | zero => rw [List.getElem?_append_left (by rw [hl]; simpa using hc)]; simp
    | succ e =>
      rw [List.getElem?_append_right (by rw [hl, Nat.add_mul]; omega), hl]
      have := ih e c (by simpa using he) hc
      simp only [fcells] at this
      simpa [show (e + 1) * sz τ + c - sz τ = e * sz τ + c by rw [Nat.add_mul]; omega] using this
theorem fcells_length (τ : Ty) (ys : List (El τ)) : (fcells τ ys).length = ys.length * sz τ := by
  induction ys with
  | nil => simp [fcells]
  | cons y ys ih => simp only [fcells, List.flatMap_cons, List.length_append, List.length_map, cells_length, List.length_cons, Nat.add_mul] at ih ⊢; omega

theorem Vis.of_flat {A : Nat → Prop} {w : World} {τ : Ty} {ys : List (El τ)} {v : Value} (hd : τ.deep = false) (h : SlF A w (sz τ) v ys.length (fcells τ ys)) : Vis A w τ ys v (fcells τ ys) := by
  refine ⟨h, fun e c ct he hc => ?_⟩
  have hc' : c < sz τ := by
    have := (List.getElem?_eq_some_iff.1 hc).1
    rwa [cells_length] at this
  refine ⟨ctVal ct, by rw [getElem?_flatMap_cells τ ys e c he hc', hc]; rfl, ?_⟩
  have hm : ct ∈ cells τ (ys.getD e (dflt τ)) := List.mem_of_getElem? hc
  cases ct with
  | u => exact absurd hm (cells_nou _)
  | l σ zs => exact absurd rfl (cells_flat hd _ _ hm σ zs)
  | _ => rfl
/-- of what has no slices all cells are known -/
theorem Vis.flat {A : Nat → Prop} {w : World} {τ : Ty} {ys : List (El τ)} {v : Value} {cs : List Value} (hd : τ.deep = false) (h : Vis A w τ ys v cs) : cs = fcells τ ys := by
  have hz := sz_pos τ
  apply List.ext_getElem?
  intro i
  by_cases hi : i < ys.length * sz τ
  · have he : i / sz τ < ys.length := Nat.div_lt_of_lt_mul (by rwa [Nat.mul_comm])
    have hc : i % sz τ < sz τ := Nat.mod_lt _ hz
    have hie : i / sz τ * sz τ + i % sz τ = i := by rw [Nat.mul_comm]; exact Nat.div_add_mod i (sz τ)
    have hcc : (cells τ (ys.getD (i / sz τ) (dflt τ)))[i % sz τ]? = some ((cells τ (ys.getD (i / sz τ) (dflt τ)))[i % sz τ]'(by rw [cells_length]; exact hc)) := List.getElem?_eq_getElem _
    obtain ⟨u, hu, hr⟩ := h.cel _ _ _ he hcc
    have h2 := getElem?_flatMap_cells τ ys _ _ he hc
    rw [hie] at hu h2
    rw [hu, h2, hcc]
    have hm : (cells τ (ys.getD (i / sz τ) (dflt τ)))[i % sz τ]'(by rw [cells_length]; exact hc) ∈ cells τ (ys.getD (i / sz τ) (dflt τ)) := List.getElem_mem _
    revert hr hm
    generalize (cells τ (ys.getD (i / sz τ) (dflt τ)))[i % sz τ]'(by rw [cells_length]; exact hc) = ct
    intro hr hm
    cases ct with
    | u => exact absurd hm (cells_nou _)
    | l σ zs => exact absurd rfl (cells_flat hd _ _ hm σ zs)
    | _ => exact congrArg some hr
  · rw [List.getElem?_eq_none (by rw [h.top.1]; omega), List.getElem?_eq_none (by rw [fcells_length]; omega)]

/-! ### what the references stand for -/
def AtV (b : Value) (i : Nat) (v : Value) : Prop := ∃ g o n cap, b = .slice (some ⟨g, o, none⟩) n cap ∧ v = .pointer (some ⟨g, o + i, none⟩)
def RelC (m : Lk) (γ : Gh) : Cv → Value → Prop
  | .un, v => v.oneCell' = true
  | .b x, v => v = .bool x
  | .i k n, v => v = .int k n
  | .s x, v => v = .string x
  | .nl _, v => v = .slice none 0 0
  | .sw r, v => (∃ row, m.r r = some row) ∧ v = γ.rv r
  | .sl r off len, v => ∃ row, m.r r = some row ∧ off + len ≤ row.xs.length ∧ SubV (sz row.τ) (γ.rv r) off len v
  | .nw r e c, v => ∃ row τ ys, m.r r = some row ∧ e < row.xs.length ∧ (row.cs e)[c]? = some (.l τ ys) ∧ (γ.cv r)[e * sz row.τ + c]? = some v
  | .ns r e c off len, v => ∃ row τ ys u, m.r r = some row ∧ e < row.xs.length ∧ (row.cs e)[c]? = some (.l τ ys) ∧ (γ.cv r)[e * sz row.τ + c]? = some u ∧ off + len ≤ ys.length ∧ SubV (sz τ) u off len v
  | .pv k c, v => (∃ cs, m.v k = some cs) ∧ v = .pointer (some ⟨γ.vb k, c, none⟩)
  | .pe r e c, v => ∃ row, m.r r = some row ∧ e < row.xs.length ∧ AtV (γ.rv r) (e * sz row.τ + c) v
  | .pn r e c k d, v => ∃ row τ ys u, m.r r = some row ∧ e < row.xs.length ∧ (row.cs e)[c]? = some (.l τ ys) ∧ (γ.cv r)[e * sz row.τ + c]? = some u ∧ k < ys.length ∧ AtV u (k * sz τ + d) v
  | .fn f caps, v => (∀ k ∈ caps, ∃ cs, m.v k = some cs) ∧ v = .func (.func f) #[] (caps.map fun k => Value.pointer (some ⟨γ.vb k, 0, none⟩)).toArray
inductive RelL (m : Lk) (γ : Gh) : List Cv → List Value → Prop
  | nil : RelL m γ [] []
  | cons {x : Cv} {v : Value} {l : List Cv} {u : List Value} : RelC m γ x v → RelL m γ l u → RelL m γ (x :: l) (v :: u)
/-- a component of a tuple -/
def RelP (m : Lk) (γ : Gh) (p : Bool × List Cv) (v : Value) : Prop := ∃ us, RelL m γ p.2 us ∧ (p.1 = true → v = .agg us.toArray) ∧ (p.1 = false → us = [v])
inductive RelTs (m : Lk) (γ : Gh) : List (Bool × List Cv) → List Value → Prop
  | nil : RelTs m γ [] []
  | cons {p : Bool × List Cv} {v : Value} {l : List (Bool × List Cv)} {u : List Value} : RelP m γ p v → RelTs m γ l u → RelTs m γ (p :: l) (v :: u)
def RelA (m : Lk) (γ : Gh) : AV → Value → Prop
  | .c .un, _ => True
  | .c x, v => RelC m γ x v
  | .a l, v => ∃ us, v = .agg us.toArray ∧ RelL m γ l us
  | .t l, v => ∃ us, v = .tuple us.toArray ∧ RelTs m γ l us
  | .g _ q u, v => (q = true → RelA m γ u v) ∧ (q = false → v = undef)

theorem RelA.of {m : Lk} {γ : Gh} {x : Cv} {v : Value} (h : RelC m γ x v) : RelA m γ (.c x) v := by
  cases x <;> first | trivial | exact h
theorem RelA.to {m : Lk} {γ : Gh} {x : Cv} {v : Value} (h : RelA m γ (.c x) v) (hx : x ≠ .un) : RelC m γ x v := by
  cases x <;> first | exact absurd rfl hx | exact h

/-- memory -/
structure Rel (X : Ctx) (m : Lk) (γ : Gh) (w : World) : Prop where
  vs : ∀ k cs, m.v k = some cs → γ.O (γ.vb k) = some (.v k) ∧ ∃ cur e, w.heap[γ.vb k]? = some (.cells cur e (0, 0)) ∧ RelL m γ cs cur.toList
  rs : ∀ k row, m.r k = some row → RowR X γ.O w k row (γ.rv k) (γ.cv k)
/-- temporaries -/
def RelT (X : Ctx) (S : St) (γ : Gh) (a : Act) : Prop := X.nt ≤ a.tmps.size ∧ ∀ t av, lk S.tm t = some av → RelA S.lk γ av (a.tmps.getD t undef)

/-- what was there when the function began, and is not its own, is as it was -/
structure Fr (O0 : OM) (w0 : World) (O : OM) (w : World) : Prop where
  os : w.os = w0.os
  tape : w.tape = w0.tape
  output : w.output = w0.output
  size : w0.heap.size ≤ w.heap.size
  blk : ∀ g, g < w0.heap.size → (O0 g = none ∨ O0 g = some .fz ∨ O0 g = some .x) → O g = O0 g ∧ w.heap[g]? = w0.heap[g]?
  top : ∀ g, w.heap.size ≤ g → O g = none

/-! ### references in another state -/
structure KeepR (m : Lk) (γ : Gh) (m' : Lk) (γ' : Gh) (r : Nat) : Prop where
  row : ∀ row, m.r r = some row → ∃ row', m'.r r = some row' ∧ row'.τ = row.τ ∧ row.xs.length ≤ row'.xs.length
  rv : γ'.rv r = γ.rv r
structure KeepN (m : Lk) (γ : Gh) (m' : Lk) (γ' : Gh) (r : Nat) : Prop where
  cell : ∀ row row', m.r r = some row → m'.r r = some row' → ∀ e c τ ys, e < row.xs.length → (row.cs e)[c]? = some (.l τ ys) →
    (∃ ys' : List (El τ), (row'.cs e)[c]? = some (.l τ ys') ∧ ys.length ≤ ys'.length) ∧ (γ'.cv r)[e * sz row.τ + c]? = (γ.cv r)[e * sz row.τ + c]?
structure KeepV (m : Lk) (γ : Gh) (m' : Lk) (γ' : Gh) (k : Nat) : Prop where
  cs : ∀ cs, m.v k = some cs → ∃ cs', m'.v k = some cs'
  vb : γ'.vb k = γ.vb k

theorem RelC.re {m m' : Lk} {γ γ' : Gh} {x : Cv} {v : Value} (h : RelC m γ x v) (hr : ∀ r, x.row = some r → KeepR m γ m' γ' r) (hn : ∀ r, x.row = some r → x.inner = true → KeepN m γ m' γ' r)
    (hv : ∀ k ∈ x.vk, KeepV m γ m' γ' k) : RelC m' γ' x v := by
  cases x with
  | un => exact h
  | b x => exact h
  | i k n => exact h
  | s x => exact h
  | nl τ => exact h
  | sw r =>
    obtain ⟨⟨row, hrow⟩, h2⟩ := h
    obtain ⟨row', h3, _⟩ := (hr r rfl).row row hrow
    exact ⟨⟨row', h3⟩, h2.trans (hr r rfl).rv.symm⟩
  | sl r off len =>
    obtain ⟨row, hrow, hle, hs⟩ := h
    obtain ⟨row', h3, h4, h5⟩ := (hr r rfl).row row hrow
    exact ⟨row', h3, by omega, by rw [h4, (hr r rfl).rv]; exact hs⟩
  | nw r e c =>
    obtain ⟨row, τ, ys, hrow, he, hc, hu⟩ := h
    obtain ⟨row', h3, h4, h5⟩ := (hr r rfl).row row hrow
    obtain ⟨⟨ys', h6, h7⟩, h8⟩ := (hn r rfl rfl).cell row row' hrow h3 e c τ ys he hc
    exact ⟨row', τ, ys', h3, by omega, h6, by rw [h4, h8]; exact hu⟩
  | ns r e c off len =>
    obtain ⟨row, τ, ys, u, hrow, he, hc, hu, hle, hs⟩ := h
    obtain ⟨row', h3, h4, h5⟩ := (hr r rfl).row row hrow
    obtain ⟨⟨ys', h6, h7⟩, h8⟩ := (hn r rfl rfl).cell row row' hrow h3 e c τ ys he hc
    exact ⟨row', τ, ys', u, h3, by omega, h6, by rw [h4, h8]; exact hu, by omega, hs⟩
  | pv k c =>
    obtain ⟨⟨cs, hcs⟩, h2⟩ := h
    exact ⟨(hv k (by simp [Cv.vk])).cs cs hcs, by rw [(hv k (by simp [Cv.vk])).vb]; exact h2⟩
  | pe r e c =>
    obtain ⟨row, hrow, he, ha⟩ := h
    obtain ⟨row', h3, h4, h5⟩ := (hr r rfl).row row hrow
    exact ⟨row', h3, by omega, by rw [h4, (hr r rfl).rv]; exact ha⟩
  | pn r e c k d =>
    obtain ⟨row, τ, ys, u, hrow, he, hc, hu, hk, ha⟩ := h
    obtain ⟨row', h3, h4, h5⟩ := (hr r rfl).row row hrow
    obtain ⟨⟨ys', h6, h7⟩, h8⟩ := (hn r rfl rfl).cell row row' hrow h3 e c τ ys he hc
    exact ⟨row', τ, ys', u, h3, by omega, h6, by rw [h4, h8]; exact hu, by omega, ha⟩
  | fn f caps =>
    obtain ⟨h1, h2⟩ := h
    refine ⟨fun k hk => let ⟨cs, hcs⟩ := h1 k hk; (hv k hk).cs cs hcs, ?_⟩
    rw [h2]; congr 2
    exact List.map_congr_left fun k hk => by rw [(hv k hk).vb]

/-- a state that has at least what another has -/
structure Le (m M : Lk) : Prop where
  r : ∀ k row, m.r k = some row → M.r k = some row
  v : ∀ k cs, m.v k = some cs → M.v k = some cs
theorem Le.refl (m : Lk) : Le m m := ⟨fun _ _ h => h, fun _ _ h => h⟩

/-! ### looking -/
theorem row_cs (row : Row) (e : Nat) : row.cs e = cells row.τ (row.xs.getD e (dflt row.τ)) := rfl
theorem Vis.cell {A : Nat → Prop} {w : World} {row : Row} {v : Value} {cs : List Value} (h : Vis A w row.τ row.xs v cs) {e c : Nat} {τ : Ty} {ys : List (El τ)} {u : Value}
    (he : e < row.xs.length) (hc : (row.cs e)[c]? = some (.l τ ys)) (hu : cs[e * sz row.τ + c]? = some u) : τ.deep = false ∧ Vis A w τ ys u (fcells τ ys) := by
  obtain ⟨u', hu', hd, hs⟩ := h.cel e c _ he hc
  rw [hu] at hu'; cases hu'
  exact ⟨hd, .of_flat hd hs⟩

/-- whose a reference's block may be -/
def RefA (γ : Gh) (x : Cv) (g : Nat) : Prop := match x.row with | some r => Fam r (γ.O g) | none => False

/-- what is seen of a slice, where of the row all blocks are such -/
theorem vw_visG {m M : Lk} {γ : Gh} {w : World} (hm : Le m M) {x : Cv} {v : Value} (hx : RelC M γ x v) {τ : Ty} {xs : List (El τ)} {A : Nat → Prop}
    (fam : ∀ r row, m.r r = some row → x.row = some r → Vis A w row.τ row.xs (γ.rv r) (γ.cv r))
    (h : (m.vw x).ct = some (.l τ xs)) : (∃ cs, Vis A w τ xs v cs) ∧ (m.vw x).len = some xs.length := by
  cases x with
  | nl σ =>
    simp only [Lk.vw, Vw.ct, Option.some.injEq, Ct.l.injEq] at h
    obtain ⟨rfl, h⟩ := h; cases h
    refine ⟨⟨[], ⟨by simp, .inl ⟨hx, rfl⟩⟩, fun e c ct he => by simp at he⟩, rfl⟩
  | sw r =>
    simp only [Lk.vw] at h ⊢
    cases hr : m.r r with
    | none => simp [hr, Vw.ct] at h
    | some row =>
      simp only [hr, Vw.ct, Option.some.injEq, Ct.l.injEq] at h
      obtain ⟨rfl, h⟩ := h; cases h
      obtain ⟨_, hx⟩ := hx
      exact ⟨⟨_, by rw [hx]; exact fam r row hr rfl⟩, by simp [Vw.len]⟩
  | sl r off len =>
    simp only [Lk.vw] at h ⊢
    cases hr : m.r r with
    | none => simp [hr, Vw.ct] at h
    | some row =>
      simp only [hr, Vw.ct, Option.some.injEq, Ct.l.injEq] at h
      obtain ⟨rfl, h⟩ := h; cases h
      obtain ⟨row', hr', hle, hs⟩ := hx
      rw [hm.r r row hr] at hr'; cases hr'
      exact ⟨⟨_, (fam r row hr rfl).sub hle hs⟩, by simp [Vw.len, sub_length _ hle]⟩
  | nw r e c =>
    simp only [Lk.vw, nth_eq] at h ⊢
    cases hr : m.r r with
    | none => simp [hr, Vw.ct] at h
    | some row =>
      obtain ⟨row', τ', ys, hr', he, hc, hu⟩ := hx
      rw [hm.r r row hr] at hr'; cases hr'
      simp only [hr, hc, Vw.ct, Option.some.injEq, Ct.l.injEq] at h
      obtain ⟨rfl, h⟩ := h; cases h
      exact ⟨⟨_, ((fam r row hr rfl).cell he hc hu).2⟩, by simp [hc, Vw.len]⟩
  | ns r e c off len =>
    simp only [Lk.vw, nth_eq] at h ⊢
    cases hr : m.r r with
    | none => simp [hr, Vw.ct] at h
    | some row =>
      obtain ⟨row', τ', ys, u, hr', he, hc, hu, hle, hs⟩ := hx
      rw [hm.r r row hr] at hr'; cases hr'
      simp only [hr, hc, Vw.ct, Option.some.injEq, Ct.l.injEq] at h
      obtain ⟨rfl, h⟩ := h; cases h
      exact ⟨⟨_, ((fam r row hr rfl).cell he hc hu).2.sub hle hs⟩, by simp [hc, Vw.len, sub_length _ hle]⟩
  | _ => simp [Lk.vw, Vw.ct] at h

/-- is it of a row's blocks? -/
def InR (r ow : Nat) (o : Option Ow) : Prop := In (topC r ow) o ∨ ∃ e c, In (nesC r e c ow) o
theorem RowR.visI {X : Ctx} {O : OM} {w : World} {k : Nat} {row : Row} {v : Value} {cs : List Value} (h : RowR X O w k row v cs) {A : Nat → Prop} (ha : ∀ g, InR k row.ow (O g) → A g) : Vis A w row.τ row.xs v cs :=
  ⟨h.top.slF.mono fun g o hg hi => ⟨hg, ha g (.inl hi)⟩, fun e c ct he hc => let ⟨u, hu, hr⟩ := h.cel e c ct he hc; ⟨u, hu, hr.vis fun g hi => ha g (.inr ⟨e, c, hi⟩)⟩⟩
/-- what is seen of a slice -/
theorem vw_vis {X : Ctx} {m M : Lk} {γ : Gh} {w : World} (hm : Le m M) (hR : Rel X M γ w) {x : Cv} {v : Value} (hx : RelC M γ x v) {τ : Ty} {xs : List (El τ)}
    (h : (m.vw x).ct = some (.l τ xs)) : (∃ cs, Vis (RefA γ x) w τ xs v cs) ∧ (m.vw x).len = some xs.length :=
  vw_visG hm hx (fun r row hr hx => (hR.rs r row (hm.r r row hr)).vis fun g hg => by simpa [RefA, hx] using hg) h
theorem vw_visI {X : Ctx} {m M : Lk} {γ : Gh} {w : World} (hm : Le m M) (hR : Rel X M γ w) {x : Cv} {v : Value} (hx : RelC M γ x v) {τ : Ty} {xs : List (El τ)} {A : Nat → Prop}
    (hA : ∀ r row g, m.r r = some row → x.row = some r → InR r row.ow (γ.O g) → A g) (h : (m.vw x).ct = some (.l τ xs)) : ∃ cs, Vis A w τ xs v cs :=
  (vw_visG hm hx (fun r row hr hx => (hR.rs r row (hm.r r row hr)).visI fun g hg => hA r row g hr hx hg) h).1

theorem ct_vis {X : Ctx} {m M : Lk} {γ : Gh} {w : World} (hm : Le m M) (hR : Rel X M γ w) {x : Cv} {v : Value} (hx : RelC M γ x v) {ct : Ct} (h : m.ct x = some ct) : CtV (RefA γ x) w ct v := by
  cases x with
  | un => simp only [Lk.ct, Option.some.injEq] at h; subst h; trivial
  | b x => simp only [Lk.ct, Option.some.injEq] at h; subst h; exact hx
  | i k n => simp only [Lk.ct, Option.some.injEq] at h; subst h; exact hx
  | s x => simp only [Lk.ct, Option.some.injEq] at h; subst h; exact hx
  | pv k c => simp [Lk.ct, Lk.vw, Vw.ct] at h
  | pe r e c => simp [Lk.ct, Lk.vw, Vw.ct] at h
  | pn r e c k d => simp [Lk.ct, Lk.vw, Vw.ct] at h
  | fn f caps => simp [Lk.ct, Lk.vw, Vw.ct] at h
  | _ =>
    have h' := h
    simp only [Lk.ct] at h'
    cases ct with
    | l τ xs => exact (vw_vis hm hR hx h').1
    | _ => revert h'; cases m.vw _ <;> simp [Vw.ct]

end Go.Soft
