/-
  SoftZC: rows of their own for nil slices, and for slices that are not written.
-/
import Derived.Test.YtlcebcpciagogaaSoftZB
set_option linter.constructorNameAsVariable false
set_option linter.unusedSimpArgs false
set_option linter.unusedVariables false
namespace Go.Soft
open Go
variable {X : Ctx} {m M : Lk} {γ γ' : Gh} {w w' : World} {ρ : Operand → Value} {S T : St} {δ δ' : Dl}

/-! ### rows that are not written any more -/
theorem kk_self (a : Nat) : leK a a = true ∨ (a = a ∧ ownK a = false ∧ a ≠ 3) := by
  rcases a with _|_|_|_|_|_|a
  · exact .inr ⟨rfl, rfl, by omega⟩
  · exact .inl rfl
  · exact .inl rfl
  · exact .inl rfl
  · exact .inl rfl
  · exact .inl rfl
  · exact .inr ⟨rfl, rfl, by omega⟩
def frzB (fz : List Nat) (k : Nat) (row : Row) : Bool := match hasN k fz && (Nat.ble 1 row.ow && Nat.ble row.ow 5), Nat.ble 300000 k && (Nat.ble k 399999 && Nat.beq row.ow 2) with
  | true, false => true
  | _, _ => false
theorem lk_freeze (fz : List Nat) : ∀ (l : List (Nat × Row)) (k : Nat), lk (freeze fz l) k = (lk l k).map fun row => bif frzB fz k row then { row with ow := fzK row.ow } else row
  | [], k => rfl
  | (j, row) :: l, k => by
    have ih := lk_freeze fz l k
    have : freeze fz ((j, row) :: l) = (j, bif frzB fz j row then { row with ow := fzK row.ow } else row) :: freeze fz l := by
      simp only [freeze, frzB]
      generalize (hasN j fz && (Nat.ble 1 row.ow && Nat.ble row.ow 5)) = b1
      generalize (Nat.ble 300000 j && (Nat.ble j 399999 && Nat.beq row.ow 2)) = b2
      cases b1 <;> cases b2 <;> rfl
    rw [this]
    simp only [lk, ih]
    cases hj : Nat.beq j k with
    | true => have := nat_beq hj; subst this; rfl
    | false => rfl
theorem fzK_le {a : Nat} (h1 : 1 ≤ a) (h2 : a ≤ 5) : leK (fzK a) a = true := by
  rcases a with _|_|_|_|_|_|a
  · omega
  · rfl
  · rfl
  · rfl
  · rfl
  · rfl
  · omega
theorem ref_fr {f : Cv → Cv} (hf : ∀ x, f x = x) {μ : Nat → Option Nat} (hμ : ∀ r, μ r = some r) (hv : ∀ k cs, S.lk.v k = some cs → ∃ cs', T.lk.v k = some cs') (x : Cv) :
    f x = .un ∨ (f x = x ∧ x.row = none ∧ ∀ k ∈ x.vk, ∀ cs, S.lk.v k = some cs → ∃ cs', T.lk.v k = some cs') ∨ ∃ r k, μ r = some k ∧
    ((x = .sw r ∧ f x = .sw k) ∨ (∃ o n, x = .sl r o n ∧ f x = .sl k o n) ∨ (∃ e c, x = .nw r e c ∧ f x = .nw k e c) ∨ (∃ e c o n, x = .ns r e c o n ∧ f x = .ns k e c o n) ∨
      (∃ e c, x = .pe r e c ∧ f x = .pe k e c) ∨ ∃ e c o n, x = .pn r e c o n ∧ f x = .pn k e c o n) := by
  have h := hf x
  cases x with
  | sw r => exact .inr (.inr ⟨r, r, hμ r, .inl ⟨rfl, h⟩⟩)
  | sl r o n => exact .inr (.inr ⟨r, r, hμ r, .inr (.inl ⟨o, n, rfl, h⟩)⟩)
  | nw r o n => exact .inr (.inr ⟨r, r, hμ r, .inr (.inr (.inl ⟨o, n, rfl, h⟩))⟩)
  | ns r e c o n => exact .inr (.inr ⟨r, r, hμ r, .inr (.inr (.inr (.inl ⟨e, c, o, n, rfl, h⟩)))⟩)
  | pe r o n => exact .inr (.inr ⟨r, r, hμ r, .inr (.inr (.inr (.inr (.inl ⟨o, n, rfl, h⟩))))⟩)
  | pn r e c o n => exact .inr (.inr ⟨r, r, hμ r, .inr (.inr (.inr (.inr (.inr ⟨e, c, o, n, rfl, h⟩))))⟩)
  | _ => exact .inr (.inl ⟨h, rfl, fun k _ cs hcs => hv k cs hcs⟩)

/-- what is left of what is known of the rows that came in -/
def I3v (e0 : Lk) (γ0 : Gh) (S : St) (γ : Gh) : Prop := ∀ k row, 300000 ≤ k → k < 400000 → S.lk.r k = some row → row.ow = 1 → e0.r k = some row ∧ γ.rv k = γ0.rv k ∧ γ.cv k = γ0.cv k
theorem freeze_ok {e0 : Lk} {γ0 : Gh} {w0 : World} {a : Act} (fz : List Nat) (hI : Inv X e0 γ0 w0 S γ a w) : ∃ γ', InvW X γ0 w0 (S.freeze fz) γ' a w ∧ I3v e0 γ0 (S.freeze fz) γ' := by
  have done : ∃ γ', InvW X γ0 w0 S γ' a w ∧ I3v e0 γ0 S γ' := ⟨γ, hI.weak, fun k row h1 h2 => hI.i3 k row (by omega) h2⟩
  cases hfz : fz with
  | nil => exact done
  | cons t l =>
    simp only [St.freeze]
    generalize rksA (fmap S.get (t :: l)) = ks
    let T : St := ⟨S.tm, S.vs, Soft.freeze ks S.rs⟩
    have hr : ∀ k, T.lk.r k = (S.lk.r k).map fun row => bif frzB ks k row then { row with ow := fzK row.ow } else row := fun k => lk_freeze ks S.rs k
    let κ : Nat → Nat := fun r => match S.lk.r r with | some row => (bif frzB ks r row then fzK row.ow else row.ow) | none => 0
    have hκ : ∀ r row, S.lk.r r = some row → κ r = bif frzB ks r row then fzK row.ow else row.ow := by
      intro r row hr
      show (match S.lk.r r with | some row => (bif frzB ks r row then fzK row.ow else row.ow) | none => 0) = _
      rw [hr]
    have hrow : ∀ r row, S.lk.r r = some row → (bif frzB ks r row then { row with ow := fzK row.ow } else row) = { row with ow := κ r } := by
      intro r row hr
      rw [hκ r row hr]
      cases frzB ks r row <;> rfl
    have hn : Ren S T some κ id := by
      refine ⟨fun r r' k h1 h2 => by cases h1; cases h2; rfl, fun k row' hk => ?_, fun r k row h1 h2 => ?_, fun r k row h1 h2 => ?_, fun k cs' hk => ⟨cs', hk, by simp⟩,
        fun t av' ht => ⟨av', ht, (mapV_id (fun _ => rfl) _).symm⟩, rfl, ref_fr (fun _ => rfl) (fun _ => rfl) fun k cs h => ⟨cs, h⟩, fun r k h _ _ => by cases h; rfl⟩
      · rw [hr] at hk
        cases hl : S.lk.r k with
        | none => rw [hl] at hk; cases hk
        | some row => rw [hl] at hk; cases hk; exact ⟨k, row, rfl, hl, hrow k row hl⟩
      · cases h1; rw [hr, h2]; exact congrArg some (hrow r row h2)
      · rw [hκ r row h2]
        cases hf : frzB ks r row with
        | false => exact kk_self row.ow
        | true =>
          refine .inl ?_
          simp only [frzB] at hf
          revert hf; split
          · rename_i h1 _
            intro _
            simp only [Bool.and_eq_true] at h1
            exact fzK_le (Nat.le_of_ble_eq_true h1.2.1) (Nat.le_of_ble_eq_true h1.2.2)
          · intro h; cases h
    obtain ⟨γ', h1, h2⟩ := hn.ok hI.weak
    refine ⟨γ', h1, fun k row' hk1 hk2 hk3 hk4 => ?_⟩
    have hk3 : T.lk.r k = some row' := hk3
    rw [hr] at hk3
    cases hl : S.lk.r k with
    | none => rw [hl] at hk3; cases hk3
    | some row =>
      rw [hl] at hk3
      simp only [Option.map_some, Option.some.injEq] at hk3
      have h5 : row.ow = 1 ∧ row' = row := by
        cases hf : frzB ks k row with
        | false => rw [hf] at hk3; simp only [cond_false] at hk3; subst hk3; exact ⟨hk4, rfl⟩
        | true =>
          rw [hf] at hk3; simp only [cond_true] at hk3
          subst hk3
          have hk4 : fzK row.ow = 1 := hk4
          have h12 : row.ow = 1 ∨ row.ow = 2 := by
            revert hk4; simp only [fzK]; split
            · exact fun _ => .inl (by assumption)
            · exact fun _ => .inr (by assumption)
            · intro h; cases h
          rcases h12 with h | h
          · refine ⟨h, ?_⟩
            obtain ⟨τ, xs, ow⟩ := row
            simp only at h; subst h; rfl
          · exfalso
            simp only [frzB] at hf
            have : (Nat.ble 300000 k && (Nat.ble k 399999 && Nat.beq row.ow 2)) = true := by
              rw [h]; simp only [Bool.and_eq_true]
              exact ⟨Nat.ble_eq_true_of_le hk1, Nat.ble_eq_true_of_le (by omega), rfl⟩
            rw [this] at hf
            revert hf
            cases (hasN k ks && (Nat.ble 1 row.ow && Nat.ble row.ow 5)) <;> simp
      obtain ⟨h5, rfl⟩ := h5
      obtain ⟨i1, i2, i3⟩ := hI.i3 k row' (by omega) hk2 hl h5
      obtain ⟨j1, j2⟩ := h2 k k row' rfl hl
      exact ⟨i1, by rw [j1, i2], by rw [j2, i3]⟩

/-! ### new rows -/
inductive NlR (X : Ctx) (O : OM) (w : World) : List (Nat × Row) → List (Nat × (Value × List Value)) → Prop
  | nil : NlR X O w [] []
  | cons {k : Nat} {row : Row} {v : Value} {cs : List Value} {rs : List (Nat × Row)} {V : List (Nat × (Value × List Value))} : RowR X O w k row v cs → NlR X O w rs V → NlR X O w ((k, row) :: rs) ((k, (v, cs)) :: V)
theorem NlR.append {O : OM} {rs rs' : List (Nat × Row)} {V V' : List (Nat × (Value × List Value))} (h : NlR X O w rs V) (h' : NlR X O w rs' V') : NlR X O w (rs ++ rs') (V ++ V') := by
  induction h with
  | nil => exact h'
  | cons hr _ ih => exact .cons hr ih
theorem NlR.keys {O : OM} {rs : List (Nat × Row)} {V : List (Nat × (Value × List Value))} (h : NlR X O w rs V) : keys V = Soft.keys rs := by
  induction h with
  | nil => rfl
  | cons _ _ ih => simp [Soft.keys, ih]
theorem NlR.get {O : OM} {rs : List (Nat × Row)} {V : List (Nat × (Value × List Value))} (h : NlR X O w rs V) : ∀ k row, lk rs k = some row → ∃ vc, lk V k = some vc ∧ RowR X O w k row vc.1 vc.2 := by
  induction h with
  | nil => intro k row h; cases h
  | cons hr _ ih =>
    rename_i j _ v cs _ _ _
    intro k row hk
    simp only [lk] at hk ⊢
    cases hj : Nat.beq j k with
    | true =>
      simp only [hj, Option.some.injEq] at hk ⊢
      have := nat_beq hj; subst this; subst hk
      exact ⟨_, rfl, hr⟩
    | false => simp only [hj] at hk ⊢; exact ih k row hk

/-- a state that has these rows besides -/
structure Ag (m : Lk) (γ : Gh) (rs : List (Nat × Row)) (V : List (Nat × (Value × List Value))) (m1 : Lk) (γ1 : Gh) : Prop where
  r : ∀ r row, m.r r = some row → m1.r r = some row ∧ γ1.rv r = γ.rv r ∧ γ1.cv r = γ.cv r
  v : ∀ k cs, m.v k = some cs → ∃ cs', m1.v k = some cs'
  vb : γ1.vb = γ.vb
  n : ∀ k row, (k, row) ∈ rs → m1.r k = some row
  g : ∀ k vc, (k, vc) ∈ V → γ1.rv k = vc.1 ∧ γ1.cv k = vc.2
variable {m1 : Lk} {γ1 : Gh} {rs rs' : List (Nat × Row)} {V V' : List (Nat × (Value × List Value))}
theorem Ag.left (h : Ag m γ (rs ++ rs') (V ++ V') m1 γ1) : Ag m γ rs V m1 γ1 := ⟨h.r, h.v, h.vb, fun k row hm => h.n k row (List.mem_append_left _ hm), fun k vc hm => h.g k vc (List.mem_append_left _ hm)⟩
theorem Ag.right (h : Ag m γ (rs ++ rs') (V ++ V') m1 γ1) : Ag m γ rs' V' m1 γ1 := ⟨h.r, h.v, h.vb, fun k row hm => h.n k row (List.mem_append_right _ hm), fun k vc hm => h.g k vc (List.mem_append_right _ hm)⟩
theorem Ag.old (h : Ag m γ rs V m1 γ1) {x : Cv} {v : Value} (hx : RelC m γ x v) : RelC m1 γ1 x v :=
  hx.re (fun r _ => ⟨fun row hr => ⟨row, (h.r r row hr).1, rfl, Nat.le_refl _⟩, by
    cases hx' : m.r r with
    | some row => exact (h.r r row hx').2.1
    | none =>
      exfalso
      rename_i hrow
      revert hx
      cases x <;> simp only [Cv.row, Option.some.injEq, reduceCtorEq] at hrow <;> subst hrow <;> simp [RelC, hx']⟩)
    (fun r _ _ => ⟨fun row row' h1 h2 e c τ ys he hc => by
      have h3 := h.r r row h1
      rw [h3.1] at h2; cases h2
      exact ⟨⟨ys, hc, Nat.le_refl _⟩, by rw [h3.2.2]⟩⟩) fun k _ => ⟨fun cs hcs => h.v k cs hcs, by rw [h.vb]⟩
theorem Ag.oldA (h : Ag m γ rs V m1 γ1) {x : AV} {v : Value} (hx : RelA m γ x v) : RelA m1 γ1 x v := by
  have := RelA.map (f := id) (fun x v hx => h.old hx) rfl hx
  rwa [mapV_id (f := id) (fun _ => rfl)] at this

theorem nlC_ok (hR : Rel X m γ w) {x y : Cv} {v : Value} {k : Nat} {rs : List (Nat × Row)} (hx : RelC m γ x v) (h : m.nlC k x = (y, rs)) :
    ∃ V, NlR X γ.O w rs V ∧ ∀ m1 γ1, Ag m γ rs V m1 γ1 → RelC m1 γ1 y v := by
  have same : ∀ {y : Cv} {rs : List (Nat × Row)}, (x, []) = (y, rs) → ∃ V, NlR X γ.O w rs V ∧ ∀ m1 γ1, Ag m γ rs V m1 γ1 → RelC m1 γ1 y v := by
    intro y rs h
    cases h
    exact ⟨[], .nil, fun m1 γ1 ha => ha.old hx⟩
  have new : ∀ {row : Row} {cs : List Value} {y : Cv} {rs : List (Nat × Row)}, RowR X γ.O w k row v cs → (Cv.sw k, [(k, row)]) = (y, rs) → ∃ V, NlR X γ.O w rs V ∧ ∀ m1 γ1, Ag m γ rs V m1 γ1 → RelC m1 γ1 y v := by
    intro row cs y rs hr h
    cases h
    exact ⟨[(k, (v, cs))], .cons hr .nil, fun m1 γ1 ha => ⟨⟨row, ha.n k row (by simp)⟩, (ha.g k (v, cs) (by simp)).1.symm⟩⟩
  have bor : ∀ {τ : Ty} {ys : List (El τ)}, m.immC x = true → (∃ r, x.row = some r) → (m.vw x).ct = some (.l τ ys) → ∃ cs, RowR X γ.O w k ⟨τ, ys, match x.row with | some r => (match m.r r with | some row => row.ow | none => 1) | none => 1⟩ v cs := by
    intro τ ys hi hrow hc
    obtain ⟨r, hrow⟩ := hrow
    simp only [Lk.immC, hrow] at hi ⊢
    cases hr : m.r r with
    | none => simp [hr] at hi
    | some row =>
      simp only [hr] at hi ⊢
      revert hi; split
      · rename_i h1
        intro _
        obtain ⟨cs, hv⟩ := vw_visI (Le.refl m) hR hx (A := fun g => In .bor (γ.O g)) (fun r' row' g hr' hx' hi => by
          rw [hrow] at hx'; cases hx'
          rw [hr] at hr'; cases hr'
          rw [h1] at hi
          rcases hi with hi | ⟨_, _, hi⟩ <;> exact hi) hc
        rw [h1]; exact ⟨cs, hv.of_bor⟩
      · rename_i h1
        intro _
        obtain ⟨cs, hv⟩ := vw_visI (Le.refl m) hR hx (A := fun g => In .fz (γ.O g)) (fun r' row' g hr' hx' hi => by
          rw [hrow] at hx'; cases hx'
          rw [hr] at hr'; cases hr'
          rw [h1] at hi
          rcases hi with hi | ⟨_, _, hi⟩ <;> exact hi) hc
        rw [h1]; exact ⟨cs, hv.of_fz⟩
      · intro h; cases h
  cases x with
  | nl τ =>
    simp only [Lk.nlC] at h
    have hv : v = .slice none 0 0 := hx
    exact new (by rw [hv]; exact RowR.nil X γ.O w k τ 5) h
  | sw r =>
    simp only [Lk.nlC] at h
    cases hr : m.r r with
    | none => simp only [hr] at h; exact same h
    | some row =>
      simp only [hr] at h
      have hrow := hR.rs r row hr
      obtain ⟨_, hv⟩ := hx
      have hcopy : row.ow = 1 ∨ row.ow = 3 → RowR X γ.O w k row v (γ.cv r) := by
        intro ho
        rw [hv]
        have := hrow.re (k' := k) (ow' := row.ow) (w' := w) (O' := γ.O) (by rcases ho with ho | ho <;> rw [ho] <;> rfl) (fun g o hg hi => ⟨hg, by rcases ho with ho | ho <;> rw [ho] at hi ⊢ <;> exact hi⟩)
          (fun e c g o hg hi => ⟨hg, by rcases ho with ho | ho <;> rw [ho] at hi ⊢ <;> exact hi⟩)
        exact this
      revert h; split
      · rename_i h1; exact fun h => new (hcopy (.inl h1)) h
      · rename_i h1; exact fun h => new (hcopy (.inr h1)) h
      · exact fun h => same h
  | sl r o n =>
    simp only [Lk.nlC] at h
    revert h; split
    · rename_i hi hc
      intro h
      obtain ⟨cs, hr⟩ := bor hi ⟨r, rfl⟩ hc
      exact new hr h
    · exact fun h => same h
  | nw r o n =>
    simp only [Lk.nlC] at h
    revert h; split
    · rename_i hi hc
      intro h
      obtain ⟨cs, hr⟩ := bor hi ⟨r, rfl⟩ hc
      exact new hr h
    · exact fun h => same h
  | ns r e c o n =>
    simp only [Lk.nlC] at h
    revert h; split
    · rename_i hi hc
      intro h
      obtain ⟨cs, hr⟩ := bor hi ⟨r, rfl⟩ hc
      exact new hr h
    · exact fun h => same h
  | _ => exact same h
theorem nlL_ok (hR : Rel X m γ w) : ∀ {x y : List Cv} {v : List Value} {k : Nat} {rs : List (Nat × Row)}, RelL m γ x v → m.nlL k x = (y, rs) →
    ∃ V, NlR X γ.O w rs V ∧ ∀ m1 γ1, Ag m γ rs V m1 γ1 → RelL m1 γ1 y v
  | [], y, v, k, rs, hx, h => by cases hx; cases h; exact ⟨[], .nil, fun _ _ _ => .nil⟩
  | x :: l, y, v, k, rs, hx, h => by
    cases hx with
    | cons hx hl =>
      simp only [Lk.nlL] at h
      cases h1 : m.nlC k x with
      | mk a ra =>
        cases h2 : m.nlL (k + 1) l with
        | mk b rb =>
          simp only [h1, h2] at h; cases h
          obtain ⟨V, hv1, hv2⟩ := nlC_ok hR hx h1
          obtain ⟨V', hv3, hv4⟩ := nlL_ok hR hl h2
          exact ⟨V ++ V', hv1.append hv3, fun m1 γ1 ha => .cons (hv2 m1 γ1 ha.left) (hv4 m1 γ1 ha.right)⟩
/-- temporaries: VT what each holds -/
theorem nlTm_ok (hR : Rel X m γ w) {VT : Nat → Value} : ∀ {x y : List (Nat × AV)} {k : Nat} {rs : List (Nat × Row)}, (∀ p ∈ x, RelA m γ p.2 (VT p.1)) → m.nlTm k x = (y, rs) →
    ∃ V, NlR X γ.O w rs V ∧ ∀ m1 γ1, Ag m γ rs V m1 γ1 → ∀ p ∈ y, RelA m1 γ1 p.2 (VT p.1)
  | [], y, k, rs, hx, h => by cases h; exact ⟨[], .nil, fun _ _ _ p hp => by cases hp⟩
  | (t, av) :: l, y, k, rs, hx, h => by
    have hl : ∀ p ∈ l, RelA m γ p.2 (VT p.1) := fun p hp => hx p (List.mem_cons_of_mem _ hp)
    have h0 : RelA m γ av (VT t) := hx (t, av) List.mem_cons_self
    have rest : ∀ {b : AV} {rb : List (Nat × Row)} {V : List (Nat × (Value × List Value))} {y : List (Nat × AV)} {rs : List (Nat × Row)}, NlR X γ.O w rb V → (∀ m1 γ1, Ag m γ rb V m1 γ1 → RelA m1 γ1 b (VT t)) →
        (match m.nlTm (k + 64) l with | (n, rs) => ((t, b) :: n, rb ++ rs)) = (y, rs) → ∃ V, NlR X γ.O w rs V ∧ ∀ m1 γ1, Ag m γ rs V m1 γ1 → ∀ p ∈ y, RelA m1 γ1 p.2 (VT p.1) := by
      intro b rb V y rs hv1 hv2 h
      cases h2 : m.nlTm (k + 64) l with
      | mk n rc =>
        simp only [h2] at h; cases h
        obtain ⟨V', hv3, hv4⟩ := nlTm_ok hR hl h2
        refine ⟨V ++ V', hv1.append hv3, fun m1 γ1 ha p hp => ?_⟩
        rcases List.mem_cons.1 hp with rfl | hp
        · exact hv2 m1 γ1 ha.left
        · exact hv4 m1 γ1 ha.right p hp
    have other : ∀ {y : List (Nat × AV)} {rs : List (Nat × Row)}, (match m.nlTm (k + 64) l with | (n, rs) => ((t, av) :: n, rs)) = (y, rs) → ∃ V, NlR X γ.O w rs V ∧ ∀ m1 γ1, Ag m γ rs V m1 γ1 → ∀ p ∈ y, RelA m1 γ1 p.2 (VT p.1) := by
      intro y rs h
      refine rest (b := av) (rb := []) (V := []) .nil (fun m1 γ1 ha => ha.oldA h0) ?_
      cases h2 : m.nlTm (k + 64) l with
      | mk n rc => simp only [h2] at h ⊢; exact h
    cases av with
    | c x =>
      simp only [Lk.nlTm] at h
      cases h1 : m.nlC k x with
      | mk a ra =>
        simp only [h1] at h
        by_cases hu : x = .un
        · subst hu
          simp only [Lk.nlC, Prod.mk.injEq] at h1
          obtain ⟨rfl, rfl⟩ := h1
          exact rest (b := .c .un) (V := []) .nil (fun _ _ _ => trivial) h
        · obtain ⟨V, hv1, hv2⟩ := nlC_ok hR (RelA.to h0 hu) h1
          exact rest (b := .c a) hv1 (fun m1 γ1 ha => RelA.of (hv2 m1 γ1 ha)) h
    | a x =>
      simp only [Lk.nlTm] at h
      cases h1 : m.nlL k x with
      | mk a ra =>
        simp only [h1] at h
        obtain ⟨us, hus, hl'⟩ := h0
        obtain ⟨V, hv1, hv2⟩ := nlL_ok hR hl' h1
        exact rest (b := .a a) hv1 (fun m1 γ1 ha => ⟨us, hus, hv2 m1 γ1 ha⟩) h
    | t x => exact other h
    | g p q x => exact other h
theorem nlVs_ok (hR : Rel X m γ w) {H : Nat → List Value → Prop} : ∀ {x y : List (Nat × List Cv)} {k : Nat} {rs : List (Nat × Row)}, (∀ p ∈ x, ∃ u, H p.1 u ∧ RelL m γ p.2 u) → m.nlVs k x = (y, rs) →
    ∃ V, NlR X γ.O w rs V ∧ keys y = keys x ∧ ∀ m1 γ1, Ag m γ rs V m1 γ1 → ∀ p ∈ y, ∃ u, H p.1 u ∧ RelL m1 γ1 p.2 u
  | [], y, k, rs, hx, h => by cases h; exact ⟨[], .nil, rfl, fun _ _ _ p hp => by cases hp⟩
  | (t, cs) :: l, y, k, rs, hx, h => by
    simp only [Lk.nlVs] at h
    cases h1 : m.nlL k cs with
    | mk a ra =>
      cases h2 : m.nlVs (k + 64) l with
      | mk n rc =>
        simp only [h1, h2] at h; cases h
        obtain ⟨u, hu, hr⟩ := hx (t, cs) List.mem_cons_self
        obtain ⟨V, hv1, hv2⟩ := nlL_ok hR hr h1
        obtain ⟨V', hv3, hk, hv4⟩ := nlVs_ok hR (fun p hp => hx p (List.mem_cons_of_mem _ hp)) h2
        refine ⟨V ++ V', hv1.append hv3, by simp [keys, hk], fun m1 γ1 ha p hp => ?_⟩
        rcases List.mem_cons.1 hp with rfl | hp
        · exact ⟨u, hu, hv2 m1 γ1 ha.left⟩
        · exact hv4 m1 γ1 ha.right p hp

theorem nlC_keys (k : Nat) (x : Cv) : ∀ j ∈ keys (m.nlC k x).2, j = k := by
  intro j hj
  revert hj
  simp only [Lk.nlC]
  repeat' split
  all_goals simp [keys]
theorem nlL_keys : ∀ (x : List Cv) (k : Nat), ∀ j ∈ keys (m.nlL k x).2, k ≤ j
  | [], k, j, h => by simp [Lk.nlL, keys] at h
  | x :: l, k, j, h => by
    have h1 := nlC_keys (m := m) k x
    have h2 := nlL_keys l (k + 1)
    simp only [Lk.nlL, keys_append, List.mem_append] at h
    rcases h with h | h
    · have := h1 j h; omega
    · have := h2 j h; omega
theorem nlTm_keys : ∀ (x : List (Nat × AV)) (k : Nat), ∀ j ∈ keys (m.nlTm k x).2, k ≤ j
  | [], k, j, h => by simp [Lk.nlTm, keys] at h
  | (t, av) :: l, k, j, h => by
    have h2 := nlTm_keys l (k + 64)
    cases av with
    | c x =>
      simp only [Lk.nlTm, keys_append, List.mem_append] at h
      rcases h with h | h
      · have := nlC_keys k x j h; omega
      · have := h2 j h; omega
    | a x =>
      simp only [Lk.nlTm, keys_append, List.mem_append] at h
      rcases h with h | h
      · exact nlL_keys x k j h
      · have := h2 j h; omega
    | t x => simp only [Lk.nlTm] at h; have := h2 j h; omega
    | g p q x => simp only [Lk.nlTm] at h; have := h2 j h; omega
theorem nlVs_keys : ∀ (x : List (Nat × List Cv)) (k : Nat), ∀ j ∈ keys (m.nlVs k x).2, k ≤ j
  | [], k, j, h => by simp [Lk.nlVs, keys] at h
  | (t, cs) :: l, k, j, h => by
    have h2 := nlVs_keys l (k + 64)
    simp only [Lk.nlVs, keys_append, List.mem_append] at h
    rcases h with h | h
    · exact nlL_keys cs k j h
    · have := h2 j h; omega

end Go.Soft
