/-
  SoftE: what an operation that changes memory keeps.
-/
import Derived.Test.YtlcebcpciagogaaSoftD
set_option linter.constructorNameAsVariable false
set_option linter.unusedSimpArgs false
set_option linter.unusedVariables false
namespace Go.Soft
open Go
variable {X : Ctx} {m M : Lk} {γ γ' : Gh} {w w' : World} {ρ : Operand → Value} {S : St} {δ : Dl}

/-! ### lookups behind a change -/
theorem beq_iff {a b : Nat} : Nat.beq a b = true ↔ a = b := ⟨nat_beq, fun h => by subst h; exact Nat.beq_refl a⟩
theorem lk_put {α : Type} (l : List (Nat × α)) (n : Nat) (v : α) (k : Nat) : lk (put l n v) k = if n = k then some v else lk l k := by
  have hrep : ∀ l : List (Nat × α), lk (repK n v l) k = if n = k then (lk l n).map (fun _ => v) else lk l k := by
    intro l
    induction l with
    | nil => simp [repK, lk]
    | cons p l ih =>
      obtain ⟨j, u⟩ := p
      simp only [repK]
      by_cases hjn : j = n
      · subst hjn
        rw [show Nat.beq j j = true from Nat.beq_refl j]
        simp only [lk]
        by_cases hjk : j = k
        · subst hjk; simp [Nat.beq_refl]
        · rw [show Nat.beq j k = false by cases h : Nat.beq j k; rfl; exact absurd (nat_beq h) hjk]
          simp only [ih, hjk, if_false]
      · rw [show Nat.beq j n = false by cases h : Nat.beq j n; rfl; exact absurd (nat_beq h) hjn]
        simp only [lk]
        rw [show Nat.beq j n = false by cases h : Nat.beq j n; rfl; exact absurd (nat_beq h) hjn]
        by_cases hjk : j = k
        · subst hjk
          simp [Nat.beq_refl, Ne.symm hjn]
        · rw [show Nat.beq j k = false by cases h : Nat.beq j k; rfl; exact absurd (nat_beq h) hjk]
          simp only [ih]
  simp only [put]
  cases h : lk l n with
  | none =>
    simp only [lk]
    by_cases hnk : n = k
    · subst hnk; simp [Nat.beq_refl]
    · rw [show Nat.beq n k = false by cases h : Nat.beq n k; rfl; exact absurd (nat_beq h) hnk]; simp [hnk]
  | some u => rw [hrep, h]; rfl
theorem lk_rmv {α : Type} (n : Nat) (l : List (Nat × α)) (k : Nat) : lk (rmv n l) k = if n = k then none else lk l k := by
  induction l with
  | nil => simp [rmv, lk]
  | cons p l ih =>
    obtain ⟨j, u⟩ := p
    simp only [rmv]
    by_cases hjn : j = n
    · subst hjn
      rw [show Nat.beq j j = true from Nat.beq_refl j]
      simp only [ih, lk]
      by_cases hjk : j = k
      · simp [hjk]
      · rw [show Nat.beq j k = false by cases h : Nat.beq j k; rfl; exact absurd (nat_beq h) hjk]
    · rw [show Nat.beq j n = false by cases h : Nat.beq j n; rfl; exact absurd (nat_beq h) hjn]
      simp only [lk]
      by_cases hjk : j = k
      · subst hjk; simp [Nat.beq_refl, Ne.symm hjn]
      · rw [show Nat.beq j k = false by cases h : Nat.beq j k; rfl; exact absurd (nat_beq h) hjk]; exact ih

/-- the last of a list -/
def lkZ {α : Type} : List (Nat × α) → Nat → Option α
  | [], _ => none
  | (k, v) :: l, n => match lkZ l n with
    | some u => some u
    | none => if k = n then some v else none
theorem lk_asgV (m : List (Nat × List Cv)) : ∀ (l : List (Nat × List Cv)) (k : Nat), lk (asgV l m) k = match lkZ m k with | some cs => some cs | none => lk l k := by
  induction m with
  | nil => intro l k; rfl
  | cons p m ih =>
    obtain ⟨j, cs⟩ := p
    intro l k
    simp only [asgV, ih, lkZ, lk_put]
    cases lkZ m k with
    | some u => rfl
    | none => by_cases h : j = k <;> simp [h]
theorem lk_asgR (m : List (Nat × Option Row)) : ∀ (l : List (Nat × Row)) (k : Nat), lk (asgR l m) k = match lkZ m k with | some r => r | none => lk l k := by
  induction m with
  | nil => intro l k; rfl
  | cons p m ih =>
    obtain ⟨j, r⟩ := p
    intro l k
    cases r with
    | none =>
      simp only [asgR, ih, lkZ, lk_rmv]
      cases lkZ m k with
      | some u => rfl
      | none => by_cases h : j = k <;> simp [h]
    | some r =>
      simp only [asgR, ih, lkZ, lk_put]
      cases lkZ m k with
      | some u => rfl
      | none => by_cases h : j = k <;> simp [h]

theorem map_quiet (h : δ.quiet = true) (x : Cv) : δ.map x = x := by
  obtain ⟨mv, kr, ke, kn, kv, rs, vs⟩ := δ
  have : mv = [] ∧ kr = [] ∧ ke = [] ∧ kn = [] ∧ kv = [] := by
    revert h; simp only [Dl.quiet]; split <;> simp_all
  obtain ⟨rfl, rfl, rfl, rfl, rfl⟩ := this
  have any : ∀ l : List Nat, anyN l [] = false := by intro l; induction l with | nil => rfl | cons a l ih => simp [anyN, hasN, ih]
  cases x <;> simp [Dl.map, hasN, lk, any]
theorem mapV_id {f : Cv → Cv} (h : ∀ x, f x = x) (v : AV) : mapV f v = v := by
  have hl : ∀ l : List Cv, l.map f = l := fun l => by rw [show f = id from funext h]; simp
  induction v with
  | c x => simp [mapV, h]
  | a l => simp [mapV, hl]
  | t l => simp [mapV, hl]
  | g p q v ih => simp [mapV, ih]

theorem app_r (S : St) (δ : Dl) (k : Nat) : (S.app δ).lk.r k = match lkZ δ.rs k with | some r => r | none => S.lk.r k := by
  simp only [St.app, St.lk]
  cases δ.quiet <;> simp only [lk_asgR]
theorem app_v (S : St) (δ : Dl) (k : Nat) : (S.app δ).lk.v k = match lkZ δ.vs k with | some cs => some cs | none => (S.lk.v k).map (List.map δ.map) := by
  simp only [St.app, St.lk]
  cases h : δ.quiet with
  | true =>
    simp only [lk_asgV]
    cases lkZ δ.vs k with
    | some cs => rfl
    | none =>
      have : (List.map δ.map) = (id : List Cv → List Cv) := by
        rw [show δ.map = id from funext (map_quiet h)]; exact funext fun l => by simp
      simp [this]
  | false =>
    simp only [lk_asgV, lk_map]
theorem app_t (S : St) (δ : Dl) (t : Nat) : lk (S.app δ).tm t = (lk S.tm t).map (mapV δ.map) := by
  simp only [St.app]
  cases h : δ.quiet with
  | true =>
    have : mapV δ.map = id := funext fun v => mapV_id (map_quiet h) v
    simp [this]
  | false => simp only [lk_map]

/-! ### the step -/
structure Step (X : Ctx) (S : St) (γ : Gh) (w : World) (δ : Dl) (γ' : Gh) (w' : World) : Prop where
  rel : Rel X (S.app δ).lk γ' w'
  keep : ∀ x v, RelC S.lk γ x v → RelC (S.app δ).lk γ' (δ.map x) v
  fr : Fr γ.O w γ'.O w'
  kp : ∀ k row, lkZ δ.rs k = none → S.lk.r k = some row → γ'.rv k = γ.rv k ∧ γ'.cv k = γ.cv k
  k1 : ∀ k row, lkZ δ.rs k = some (some row) → row.ow = 1 → k < 100000
  io : ∀ k, 200000 ≤ k → k < 300000 → γ'.rv k = γ.rv k
  vb : ∀ k, k < 1000 → γ'.vb k = γ.vb k
  vk : ∀ k cs, S.lk.v k = some cs → lkZ δ.vs k = none → γ'.vb k = γ.vb k ∧ γ'.O (γ.vb k) = some (.v k) ∧ w'.heap[γ.vb k]? = w.heap[γ.vb k]?

theorem Fr.trans {O0 : OM} {w0 : World} {O O' : OM} {w w' : World} (h : Fr O0 w0 O w) (h' : Fr O w O' w') : Fr O0 w0 O' w' :=
  ⟨h'.os.trans h.os, h'.tape.trans h.tape, h'.output.trans h.output, Nat.le_trans h.size h'.size,
    fun g hg ho => by
      obtain ⟨h1, h2⟩ := h.blk g hg ho
      obtain ⟨h3, h4⟩ := h'.blk g (Nat.lt_of_lt_of_le hg h.size) (by rw [h1]; exact ho)
      exact ⟨h3.trans h1, h4.trans h2⟩, h'.top⟩

theorem RelL.map {m' : Lk} {f : Cv → Cv} (hk : ∀ x v, RelC M γ x v → RelC m' γ' (f x) v) {l : List Cv} {u : List Value} (h : RelL M γ l u) : RelL m' γ' (l.map f) u := by
  induction h with
  | nil => exact .nil
  | cons hx hl ih => exact .cons (hk _ _ hx) ih
theorem RelP.map {m' : Lk} {f : Cv → Cv} (hk : ∀ x v, RelC M γ x v → RelC m' γ' (f x) v) {p : Bool × List Cv} {u : Value} (h : RelP M γ p u) : RelP m' γ' (p.1, p.2.map f) u := by
  obtain ⟨us, h1, h2, h3⟩ := h
  exact ⟨us, h1.map hk, h2, h3⟩
theorem RelTs.map {m' : Lk} {f : Cv → Cv} (hk : ∀ x v, RelC M γ x v → RelC m' γ' (f x) v) {l : List (Bool × List Cv)} {u : List Value} (h : RelTs M γ l u) : RelTs m' γ' (l.map fun p => (p.1, p.2.map f)) u := by
  induction h with
  | nil => exact .nil
  | cons hx hl ih => exact .cons (hx.map hk) ih
theorem RelA.map {m' : Lk} {f : Cv → Cv} (hk : ∀ x v, RelC M γ x v → RelC m' γ' (f x) v) (hu : f .un = .un) : ∀ {av : AV} {v : Value}, RelA M γ av v → RelA m' γ' (mapV f av) v
  | .c x, v, h => by
    by_cases hx : x = .un
    · subst hx; simp only [mapV, hu]; exact trivial
    · exact RelA.of (hk _ _ (RelA.to h hx))
  | .a l, v, ⟨us, h1, h2⟩ => ⟨us, h1, h2.map hk⟩
  | .t l, v, ⟨us, h1, h2⟩ => ⟨us, h1, h2.map hk⟩
  | .g p q a, v, ⟨h1, h2⟩ => ⟨fun hq => RelA.map hk hu (h1 hq), h2⟩

/-! ### which references stay -/
theorem map_cases (δ : Dl) (x : Cv) : δ.map x = .un ∨
    (δ.map x = x ∧ (∀ r, x.row = some r → lk δ.mv r = none ∧ hasN r δ.kr = false ∧ ((∀ s, x ≠ .sw s) → hasN r δ.ke = false) ∧ (x.inner = true → hasN r δ.kn = false)) ∧ ∀ k ∈ x.vk, hasN k δ.kv = false) ∨
    (∃ r d e c, lk δ.mv r = some (d, e, c) ∧ ((x = .sw r ∧ δ.map x = .nw d e c) ∨ (∃ o n, x = .sl r o n ∧ δ.map x = .ns d e c o n) ∨ ∃ k a, x = .pe r k a ∧ δ.map x = .pn d e c k a)) := by
  have anyF : ∀ (l m : List Nat), anyN l m = false → ∀ k ∈ l, hasN k m = false := by
    intro l m
    induction l with
    | nil => simp
    | cons a l ih =>
      simp only [anyN]
      cases h : hasN a m with
      | true => simp
      | false => intro h' k hk; rcases List.mem_cons.1 hk with rfl | hk; exact h; exact ih h' k hk
  cases x with
  | pv v c => simp only [Dl.map]; cases h : hasN v δ.kv <;> simp [Cv.row, Cv.vk, h]
  | fn f caps =>
    simp only [Dl.map]; cases h : anyN caps δ.kv with
    | true => simp
    | false => right; left; exact ⟨rfl, by simp [Cv.row], fun k hk => anyF _ _ h k hk⟩
  | sw r =>
    simp only [Dl.map]; cases h : lk δ.mv r with
    | some p => obtain ⟨d, e, c⟩ := p; right; right; exact ⟨r, d, e, c, h, .inl ⟨rfl, by simp [h]⟩⟩
    | none => cases h2 : hasN r δ.kr <;> simp [Cv.row, Cv.vk, Cv.inner, h, h2]
  | sl r o n =>
    simp only [Dl.map]; cases h : lk δ.mv r with
    | some p => obtain ⟨d, e, c⟩ := p; right; right; exact ⟨r, d, e, c, h, .inr (.inl ⟨o, n, rfl, by simp [h]⟩)⟩
    | none => cases h2 : hasN r δ.kr <;> cases h3 : hasN r δ.ke <;> simp [Cv.row, Cv.vk, Cv.inner, h, h2, h3]
  | pe r k a =>
    simp only [Dl.map]; cases h : lk δ.mv r with
    | some p => obtain ⟨d, e, c⟩ := p; right; right; exact ⟨r, d, e, c, h, .inr (.inr ⟨k, a, rfl, by simp [h]⟩)⟩
    | none => cases h2 : hasN r δ.kr <;> cases h3 : hasN r δ.ke <;> simp [Cv.row, Cv.vk, Cv.inner, h, h2, h3]
  | nw r e c =>
    simp only [Dl.map]; cases h : lk δ.mv r with
    | some p => simp
    | none => cases h2 : hasN r δ.kr <;> cases h3 : hasN r δ.ke <;> cases h4 : hasN r δ.kn <;> simp [Cv.row, Cv.vk, Cv.inner, h, h2, h3, h4]
  | ns r e c o n =>
    simp only [Dl.map]; cases h : lk δ.mv r with
    | some p => simp
    | none => cases h2 : hasN r δ.kr <;> cases h3 : hasN r δ.ke <;> cases h4 : hasN r δ.kn <;> simp [Cv.row, Cv.vk, Cv.inner, h, h2, h3, h4]
  | pn r e c k d =>
    simp only [Dl.map]; cases h : lk δ.mv r with
    | some p => simp
    | none => cases h2 : hasN r δ.kr <;> cases h3 : hasN r δ.ke <;> cases h4 : hasN r δ.kn <;> simp [Cv.row, Cv.vk, Cv.inner, h, h2, h3, h4]
  | _ => simp [Dl.map, Cv.row, Cv.vk]

theorem keep_of (hR : Rel X S.lk γ w) (hmv : δ.mv = [])
    (hw : ∀ r row, S.lk.r r = some row → hasN r δ.kr = false → (∃ row', (S.app δ).lk.r r = some row') ∧ γ'.rv r = γ.rv r)
    (hr : ∀ r row row', S.lk.r r = some row → hasN r δ.kr = false → hasN r δ.ke = false → (S.app δ).lk.r r = some row' → row'.τ = row.τ ∧ row.xs.length ≤ row'.xs.length)
    (hn : ∀ r, hasN r δ.kr = false → hasN r δ.ke = false → hasN r δ.kn = false → KeepN S.lk γ (S.app δ).lk γ' r)
    (hv : ∀ k cs, S.lk.v k = some cs → hasN k δ.kv = false → (∃ cs', (S.app δ).lk.v k = some cs') ∧ γ'.vb k = γ.vb k) :
    ∀ x v, RelC S.lk γ x v → RelC (S.app δ).lk γ' (δ.map x) v := by
  intro x v hx
  rcases map_cases δ x with h | ⟨h, h1, h2⟩ | ⟨r, d, e, c, h, _⟩
  · rw [h]; exact hx.one hR
  · rw [h]
    have hsw : ∀ r, x = .sw r → RelC (S.app δ).lk γ' x v := by
      rintro r rfl
      obtain ⟨⟨row, hrow⟩, rfl⟩ := hx
      obtain ⟨_, h3, _⟩ := h1 r rfl
      obtain ⟨h4, h5⟩ := hw r row hrow h3
      exact ⟨h4, h5.symm⟩
    by_cases hs : ∃ r, x = .sw r
    · obtain ⟨r, rfl⟩ := hs; exact hsw r rfl
    · have hs' : ∀ s, x ≠ .sw s := fun s e => hs ⟨s, e⟩
      have hrow : ∀ r, x.row = some r → ∃ row, S.lk.r r = some row := by
        intro r hxr
        cases x <;> simp [Cv.row] at hxr <;> subst hxr
        case sw r => exact absurd rfl (hs' r)
        case sl => obtain ⟨row, h, _⟩ := hx; exact ⟨row, h⟩
        case nw => obtain ⟨row, _, _, h, _⟩ := hx; exact ⟨row, h⟩
        case ns => obtain ⟨row, _, _, _, h, _⟩ := hx; exact ⟨row, h⟩
        case pe => obtain ⟨row, h, _⟩ := hx; exact ⟨row, h⟩
        case pn => obtain ⟨row, _, _, _, h, _⟩ := hx; exact ⟨row, h⟩
      have hvar : ∀ k ∈ x.vk, ∃ cs, S.lk.v k = some cs := by
        intro k hk
        cases x <;> simp [Cv.vk] at hk
        case pv => subst hk; exact hx.1
        case fn => exact hx.1 k hk
      refine hx.re (fun r hr' => ?_) (fun r hr' hi => ?_) (fun k hk => ?_)
      · obtain ⟨_, h3, h4, _⟩ := h1 r hr'
        obtain ⟨row, hrw⟩ := hrow r hr'
        obtain ⟨⟨row', h5⟩, h6⟩ := hw r row hrw h3
        refine ⟨fun row2 h7 => ?_, h6⟩
        rw [hrw] at h7; cases h7
        obtain ⟨h8, h9⟩ := hr r row row' hrw h3 (h4 hs') h5
        exact ⟨row', h5, h8, h9⟩
      · obtain ⟨_, h3, h4, h5⟩ := h1 r hr'
        exact hn r h3 (h4 hs') (h5 hi)
      · obtain ⟨cs, hcs⟩ := hvar k hk
        obtain ⟨h3, h4⟩ := hv k cs hcs (h2 k hk)
        exact ⟨fun _ _ => h3, h4⟩
  · simp [hmv, lk] at h

theorem fam_frame {k : Nat} {row : Row} {v : Value} {cs : List Value} {O O' : OM} (h : RowR X O w k row v cs)
    (hf : ∀ g o, w.heap[g]? = some o → Fam k (O g) → w'.heap[g]? = some o ∧ O' g = O g) : RowR X O' w' k row v cs := by
  refine ⟨h.top.re (c' := topC k row.ow) (fun g o hg hi => ?_) id, fun e c ct he hc => ?_⟩
  · obtain ⟨h1, h2⟩ := hf g o hg (In_topC hi); exact ⟨h1, h2 ▸ hi⟩
  · obtain ⟨u, hu, hr⟩ := h.cel e c ct he hc
    exact ⟨u, hu, hr.re (fun g o hg hi => by obtain ⟨h1, h2⟩ := hf g o hg (In_nesC hi); exact ⟨h1, h2 ▸ hi⟩) id⟩

theorem lt_of_some {g : Nat} {o : Obj} (h : w.heap[g]? = some o) : g < w.heap.size := (Array.getElem?_eq_some_iff.1 h).1

/-! ### variables -/
def updN {α : Type} (f : Nat → α) (k : Nat) (v : α) : Nat → α := fun n => if n = k then v else f n
/-- no block is a variable's any more -/
def dropV (O : OM) (k : Nat) : OM := fun g => if O g = some (.v k) then none else O g

theorem fmap_eq {α β : Type} (f : α → β) (l : List α) : fmap f l = l.map f := by
  induction l with
  | nil => rfl
  | cons x l ih => simp [fmap, ih]

section newvar
variable (S γ w) (key : Nat) (cs : List Cv)
def nvD : Dl := { Dl.z with kv := [key], vs := [(key, cs)] }
def nvG : Gh := { γ with O := updN (dropV γ.O key) w.heap.size (some (.v key)), vb := updN γ.vb key w.heap.size }

theorem nv_r (k : Nat) : (S.app (nvD key cs)).lk.r k = S.lk.r k := by rw [app_r]; rfl
theorem nv_v (k : Nat) : (S.app (nvD key cs)).lk.v k = if key = k then some cs else (S.lk.v k).map (List.map (nvD key cs).map) := by
  rw [app_v]
  show (match (if key = k then some cs else none) with | some cs => some cs | none => _) = _
  by_cases h : key = k <;> simp [h]
variable {S γ w}
theorem nv_keep (hR : Rel X S.lk γ w) : ∀ x v, RelC S.lk γ x v → RelC (S.app (nvD key cs)).lk (nvG γ w key) ((nvD key cs).map x) v := by
  refine keep_of hR rfl (fun r row h _ => ⟨⟨row, by rw [nv_r]; exact h⟩, rfl⟩) (fun r row row' h _ _ h' => ?_) (fun r _ _ _ => ⟨fun row row' h h' => ?_⟩) (fun k c h hk => ?_)
  · rw [nv_r, h] at h'; cases h'; exact ⟨rfl, Nat.le_refl _⟩
  · rw [nv_r, h] at h'; cases h'
    intro e c τ ys _ hc; exact ⟨⟨ys, hc, Nat.le_refl _⟩, rfl⟩
  · have hne : ¬ key = k := by
      intro e; subst e; simp [nvD, Dl.z, hasN, Nat.beq_refl] at hk
    exact ⟨⟨c.map (nvD key cs).map, by rw [nv_v, if_neg hne, h]; rfl⟩, by simp [nvG, updN, Ne.symm hne]⟩

theorem nv_step (hkey : 1000 ≤ key) (hR : Rel X S.lk γ w) (htop : ∀ g, w.heap.size ≤ g → γ.O g = none) (us : List Value) (e : TypeId) (hu : RelL (S.app (nvD key cs)).lk (nvG γ w key) cs us) :
    Step X S γ w (nvD key cs) (nvG γ w key) (w.alloc (.cells us.toArray e)) ∧ RelC (S.app (nvD key cs)).lk (nvG γ w key) (.pv key 0) (.pointer (some ⟨w.heap.size, 0, none⟩)) := by
  have hO : ∀ g, g < w.heap.size → γ.O g ≠ some (.v key) → (nvG γ w key).O g = γ.O g := by
    intro g hg hne
    simp only [nvG, updN, dropV, Nat.ne_of_lt hg, if_false, hne]
  have hheap : ∀ g o, w.heap[g]? = some o → (w.alloc (.cells us.toArray e)).heap[g]? = some o := fun g o hg => by
    rw [heap_alloc_old w _ g (lt_of_some hg)]; exact hg
  refine ⟨⟨⟨fun k c hk => ?_, fun k row hk => ?_⟩, nv_keep key cs hR, ?_, fun _ _ _ _ => ⟨rfl, rfl⟩, fun k row h => (by cases h), fun _ _ _ => rfl, fun k hk => (by simp [nvG, updN, show k ≠ key by omega]), fun k cs hk hz => ?_⟩, ?_⟩
  · rw [nv_v] at hk
    by_cases h : key = k
    · subst h
      rw [if_pos rfl] at hk; cases hk
      refine ⟨by simp [nvG, updN], us.toArray, e, by rw [show (nvG γ w key).vb key = w.heap.size by simp [nvG, updN]]; exact heap_alloc_new w _, by simpa using hu⟩
    · rw [if_neg h] at hk
      cases hc : S.lk.v k with
      | none => simp [hc] at hk
      | some c' =>
        rw [hc] at hk; simp only [Option.map_some, Option.some.injEq] at hk; subst hk
        obtain ⟨h1, cur, e', h2, h3⟩ := hR.vs k c' hc
        have hvb : (nvG γ w key).vb k = γ.vb k := by simp [nvG, updN, Ne.symm h]
        rw [hvb]
        have hlt := lt_of_some h2
        refine ⟨by rw [hO _ hlt (by rw [h1]; simp; exact fun e => h e.symm), h1], cur, e', hheap _ _ h2, h3.map (nv_keep key cs hR)⟩
  · rw [nv_r] at hk
    refine fam_frame (hR.rs k row hk) fun g o hg hf => ⟨hheap g o hg, hO g (lt_of_some hg) ?_⟩
    rcases hf with h | h | h | ⟨_, _, h⟩ <;> rw [h] <;> simp
  · refine ⟨rfl, rfl, rfl, by simp, fun g hg ho => ⟨hO g hg ?_, heap_alloc_old w _ g hg⟩, fun g hg => ?_⟩
    · rcases ho with h | h | h <;> rw [h] <;> simp
    · simp only [World.size_alloc] at hg
      have h1 : g ≠ w.heap.size := by omega
      simp only [nvG, updN, dropV, h1, if_false, htop g (by omega)]
      simp
  · have hne : ¬ key = k := by
      rintro rfl
      simp [nvD, Dl.z, lkZ] at hz
    obtain ⟨h1, cur, e', h2, h3⟩ := hR.vs k cs hk
    have hlt := lt_of_some h2
    exact ⟨by simp [nvG, updN, Ne.symm hne], by rw [hO _ hlt (by rw [h1]; simp; exact fun e => hne e.symm), h1], heap_alloc_old w _ _ hlt⟩
  · exact ⟨⟨cs, by rw [nv_v, if_pos rfl]⟩, by simp [nvG, updN]⟩
end newvar

/-! ### storing -/
theorem set_other (w : World) (g : Nat) (cs : Array Value) (k : Nat) (h : k ≠ g) : (w.setRow g cs).heap[k]? = w.heap[k]? := by
  simp [World.setRow, Array.getElem?_modify, Ne.symm h]
theorem set_same (w : World) (g : Nat) (cs cur : Array Value) (e : TypeId) (fz : Nat × Nat) (h : w.heap[g]? = some (.cells cur e fz)) : (w.setRow g cs).heap[g]? = some (.cells cs e fz) := by
  simp [World.setRow, Array.getElem?_modify, h]

theorem store_run {t : TypeId} {v : Value} {g o : Nat} {cur : Array Value} {e : TypeId} (hg : w.heap[g]? = some (.cells cur e (0, 0))) (hs : v.cells.size = szOf X.P t) (hp : 0 < v.cells.size)
    (hle : o + v.cells.size ≤ cur.size) (h1 : ∀ u ∈ v.cells.toList, u.oneCell' = true) :
    (Instr.storeAt t (.pointer (some ⟨g, o, none⟩)) v).run X.P w = .ok () (w.setRow g (Soft.repl cur.toList o v.cells.toList).toArray) := by
  obtain ⟨i, hi, hsz⟩ := szOf_pos hs.symm hp
  simp only [Instr.storeAt, Instr.sureAddr, storeVar, Sem.run_bind, Sem.run_pure, Result.andThen_ok, run_size hi, hsz, ne_eq, not_true_eq_false, if_false]
  rw [run_storeCells_at (P := X.P) g o e v.cells.toList 0 cur w hg (by simpa using hle) h1]
  simp [Soft.repl]

theorem quiet_vs (S : St) (l : List (Nat × List Cv)) : ({ Dl.z with vs := l } : Dl).quiet = true := rfl
theorem quiet_rs (S : St) (l : List (Nat × Option Row)) : ({ Dl.z with rs := l } : Dl).quiet = true := rfl

theorem repl_get_lt {α : Type} (l m : List α) (c i : Nat) (h : i < c) (hc : c ≤ l.length) : (Soft.repl l c m)[i]? = l[i]? := by
  simp only [Soft.repl, List.append_assoc]
  rw [List.getElem?_append_left (by simp; omega), List.getElem?_take, if_pos h]
theorem repl_get_ge {α : Type} (l m : List α) (c i : Nat) (h : c + m.length ≤ i) (hc : c + m.length ≤ l.length) : (Soft.repl l c m)[i]? = l[i]? := by
  simp only [Soft.repl]
  rw [List.getElem?_append_right (by simp; omega), List.getElem?_drop]
  congr 1; simp; omega
theorem repl_get_in {α : Type} (l m : List α) (c j : Nat) (h : j < m.length) (hc : c + m.length ≤ l.length) : (Soft.repl l c m)[c + j]? = m[j]? := by
  simp only [Soft.repl, List.append_assoc]
  rw [List.getElem?_append_right (by simp; omega), List.getElem?_append_left (by simp; omega)]
  congr 1; simp; omega

section varstore
variable (k c : Nat) (old vl : List Cv)
def vsD : Dl := { Dl.z with vs := [(k, Soft.repl old c vl)] }
theorem vs_map (x : Cv) : (vsD k c old vl).map x = x := map_quiet rfl x
theorem vs_r (j : Nat) : (S.app (vsD k c old vl)).lk.r j = S.lk.r j := by rw [app_r]; rfl
theorem vs_v (j : Nat) : (S.app (vsD k c old vl)).lk.v j = if k = j then some (Soft.repl old c vl) else S.lk.v j := by
  rw [app_v]
  show (match (if k = j then some (Soft.repl old c vl) else none) with | some cs => some cs | none => _) = _
  have : List.map (vsD k c old vl).map = id := by rw [show (vsD k c old vl).map = id from funext (vs_map k c old vl)]; exact funext fun l => by simp
  by_cases h : k = j <;> simp [h, this]

theorem vs_step (hR : Rel X S.lk γ w) (htop : ∀ g, w.heap.size ≤ g → γ.O g = none) {t : TypeId} {v : Value} {av : Value} (ha : RelC S.lk γ (.pv k c) av) (ho : S.lk.v k = some old)
    (hle : c + vl.length ≤ old.length) (hv : RelL S.lk γ vl v.cells.toList) (hs : vl.length = szOf X.P t) (hp : 0 < vl.length) :
    ∃ w', (Instr.storeAt t av v).run X.P w = .ok () w' ∧ Step X S γ w (vsD k c old vl) γ w' := by
  obtain ⟨_, rfl⟩ := ha
  obtain ⟨hO, cur, e, hg, hrel⟩ := hR.vs k old ho
  have hl1 := hv.length
  have hl2 := hrel.length
  simp only [Array.length_toList] at hl1 hl2
  refine ⟨_, store_run hg (by omega) (by omega) (by omega) (hv.one hR), ?_⟩
  have keep : ∀ x v, RelC S.lk γ x v → RelC (S.app (vsD k c old vl)).lk γ ((vsD k c old vl).map x) v := by
    refine keep_of hR rfl (fun r row h _ => ⟨⟨row, by rw [vs_r]; exact h⟩, rfl⟩) (fun r row row' h _ _ h' => ?_) (fun r _ _ _ => ⟨fun row row' h h' => ?_⟩) (fun j cs h _ => ⟨?_, rfl⟩)
    · rw [vs_r, h] at h'; cases h'; exact ⟨rfl, Nat.le_refl _⟩
    · rw [vs_r, h] at h'; cases h'
      intro e c τ ys _ hc; exact ⟨⟨ys, hc, Nat.le_refl _⟩, rfl⟩
    · rw [vs_v]; by_cases hkj : k = j
      · exact ⟨_, if_pos hkj⟩
      · exact ⟨cs, by rw [if_neg hkj]; exact h⟩
  have keep' : ∀ {l u}, RelL S.lk γ l u → RelL (S.app (vsD k c old vl)).lk γ l u := by
    intro l u h
    have := h.map keep
    rwa [show l.map (vsD k c old vl).map = l by rw [show (vsD k c old vl).map = id from funext (vs_map k c old vl)]; simp] at this
  have hheap : ∀ g, g ≠ γ.vb k → (w.setRow (γ.vb k) (Soft.repl cur.toList c v.cells.toList).toArray).heap[g]? = w.heap[g]? := fun g h => set_other w _ _ g h
  refine ⟨⟨fun j cs hj => ?_, fun r row hr => ?_⟩, keep, ?_, fun _ _ _ _ => ⟨rfl, rfl⟩, fun k row h => (by cases h), fun _ _ _ => rfl, fun _ _ => rfl, fun j cs hj hz => ⟨rfl, (hR.vs j cs hj).1, hheap _ fun h => ?_⟩⟩
  · rw [vs_v] at hj
    by_cases hkj : k = j
    · subst hkj
      rw [if_pos rfl] at hj; cases hj
      exact ⟨hO, _, e, set_same w _ _ _ _ _ hg, by simpa using keep' (hrel.repl hv c)⟩
    · rw [if_neg hkj] at hj
      obtain ⟨h1, cur', e', h2, h3⟩ := hR.vs j cs hj
      refine ⟨h1, cur', e', ?_, keep' h3⟩
      rw [hheap _ (fun h => by rw [h, hO] at h1; simp at h1; exact hkj h1)]; exact h2
  · rw [vs_r] at hr
    refine fam_frame (hR.rs r row hr) fun g o hg' hf => ⟨?_, rfl⟩
    rw [hheap g (fun h => by rw [h, hO] at hf; rcases hf with h | h | h | ⟨_, _, h⟩ <;> simp at h)]; exact hg'
  · refine ⟨rfl, rfl, rfl, by simp, fun g hg' ho' => ⟨rfl, hheap g (fun h => by rw [h, hO] at ho'; simp at ho')⟩, fun g hg' => htop g (by simpa using hg')⟩
  · have h1 := (hR.vs j cs hj).1
    rw [h, hO] at h1; simp at h1; subst h1
    simp [vsD, Dl.z, lkZ] at hz
end varstore

end Go.Soft
