/-
  SoftZA: a region; states under other names.
-/
import Derived.Test.YtlcebcpciagogaaSoftZ
set_option linter.constructorNameAsVariable false
set_option linter.unusedSimpArgs false
set_option linter.unusedVariables false
namespace Go.Soft
open Go
variable {X : Ctx} {m M : Lk} {γ γ' : Gh} {w w' : World} {ρ : Operand → Value} {S T : St} {δ δ' : Dl}

section
variable {R : Type} {E : Env R} {ops : Array Oper} {e0 : Lk} {γ0 : Gh} {w0 : World} {a : Act}

theorem Inv.drawn (h : Inv X e0 γ0 w0 S γ a w) (n : Nat) : Inv X e0 γ0 w0 S γ a { w with drawn := n } := by
  refine ⟨⟨h.rel.vs, fun k row hk => row_same (h.rel.rs k row hk) fun g o hg _ => ⟨hg, rfl⟩⟩, h.top, h.tmp, h.df, ⟨h.fr.os, h.fr.tape, h.fr.output, h.fr.size, h.fr.blk, h.fr.top⟩, h.i3, h.i4, h.i2⟩

def regK (ops : Array Oper) (draw : Bool) (K : St → Option R) (x : St × List Fp) : Option R := match draw with
  | false => K ⟨dropGs x.1.tm, x.1.vs, x.1.rs⟩
  | true => match edgeLt 0 ops.toList && (gdAnc (ancs [] ops.toList) 0 ops.toList && apartAll (ancs [] ops.toList) 0 [] x.2) with
    | true => K ⟨dropGs x.1.tm, x.1.vs, x.1.rs⟩
    | false => Option.none
theorem reg_ok (r0 : R) (hX : CtxOk X) (hE : EnvOk X E) {id : Nat} {draw : Bool} {s' : St} (hK : ∀ K : St → Option R, execReg X E ops draw S K = K s') (hgf : gfree S) (hI : Inv X e0 γ0 w0 S γ a w)
    {Q : Exit → Act → World → Prop} (hQ : gfree s' → ∀ γ' a' w', Inv X e0 γ0 w0 s' γ' a' w' → Q .normal a' w') : (Code.region id ops draw).wp X.P Q a w := by
  simp only [execReg] at hK
  cases hc : nodupN (dsts ops.toList) && (allLt X.nt (dsts ops.toList) && (Nat.ble X.nt 1500 && gdLt 0 ops.toList)) with
  | false => simp only [hc] at hK; exact (ev_none r0 hK).elim
  | true =>
    simp only [hc] at hK
    have hr := regOk hc
    obtain ⟨oc, hoc⟩ := execOps_uni (X := X) hE.uni ops draw ops.toList S []
    cases oc with
    | none =>
      refine False.elim (ev_none r0 (α := St) (y := s') fun K => ?_)
      have h1 := hK K
      have h2 := hoc (regK ops draw K)
      exact h2.symm.trans h1
    | some x =>
      obtain ⟨s1, fp1⟩ := x
      have hKs : ∀ K : St × List Fp → Option R, (execOps X E ops draw ops.toList S [] fun s f => K (s, f)) = K (s1, fp1) := fun K => hoc K
      cases draw with
      | false =>
        have hs : s' = ⟨dropGs s1.tm, s1.vs, s1.rs⟩ := (ev_inj r0 fun K => (by
          have h1 := hK K
          have h2 := hoc fun x => K ⟨dropGs x.1.tm, x.1.vs, x.1.rs⟩
          exact h1.symm.trans h2))
        refine wp_region ?_
        have := seq_ok r0 hX hE hr (Q := Q) (s' := s1) (fp' := fp1) (fun γ' a' w' hI' => hQ (hs ▸ gfree_drop s1) γ' a' w' (hs ▸ hI'.drop)) ops.toList [] S γ a w [] (by simp) hI (gfree_GInv hgf) hKs
        rw [List.range_eq_range']
        simpa using this
      | true =>
        have hs : (edgeLt 0 ops.toList && (gdAnc (ancs [] ops.toList) 0 ops.toList && apartAll (ancs [] ops.toList) 0 [] fp1)) = true ∧ s' = ⟨dropGs s1.tm, s1.vs, s1.rs⟩ := by
          cases hc2 : edgeLt 0 ops.toList && (gdAnc (ancs [] ops.toList) 0 ops.toList && apartAll (ancs [] ops.toList) 0 [] fp1) with
          | false =>
            refine False.elim (ev_none r0 (α := St) (y := s') fun K => ?_)
            have h1 := hK K
            have h2 := hoc fun x => match edgeLt 0 ops.toList && (gdAnc (ancs [] ops.toList) 0 ops.toList && apartAll (ancs [] ops.toList) 0 [] x.2) with
              | true => K ⟨dropGs x.1.tm, x.1.vs, x.1.rs⟩
              | false => Option.none
            have h3 := h2.symm.trans h1
            simp only [Option.bind_some, hc2] at h3
            exact h3
          | true =>
            refine ⟨rfl, ev_inj r0 fun K => ?_⟩
            have h1 := hK K
            have h2 := hoc fun x => match edgeLt 0 ops.toList && (gdAnc (ancs [] ops.toList) 0 ops.toList && apartAll (ancs [] ops.toList) 0 [] x.2) with
              | true => K ⟨dropGs x.1.tm, x.1.vs, x.1.rs⟩
              | false => Option.none
            have h3 := h1.symm.trans h2
            simp only [Option.bind_some, hc2] at h3
            exact h3
        obtain ⟨hc2, hs⟩ := hs
        simp only [Bool.and_eq_true] at hc2
        exact wp_region_any hX.mixed (draw_ok r0 hX hE hr hKs hc2.1 hc2.2.1 hc2.2.2 hgf (hI.drawn _) fun γ' a' w' hI' => hQ (hs ▸ gfree_drop s1) γ' a' w' (hs ▸ hI'.drop))
end

/-! ### what is known at each place, but for the rows that came in -/
structure InvW (X : Ctx) (γ0 : Gh) (w0 : World) (S : St) (γ : Gh) (a : Act) (w : World) : Prop where
  rel : Rel X S.lk γ w
  top : ∀ g, w.heap.size ≤ g → γ.O g = none
  tmp : RelT X S γ a
  df : a.defers = []
  fr : Fr γ0.O w0 γ.O w
  i4 : ∀ k, 200000 ≤ k → k < 300000 → γ.rv k = γ0.rv k
  i2 : ∀ k, k < 1000 → γ.vb k = γ0.vb k
def I3 (e0 : Lk) (γ0 : Gh) (S : St) (γ : Gh) : Prop := ∀ k row, 100000 ≤ k → k < 400000 → S.lk.r k = some row → row.ow = 1 → e0.r k = some row ∧ γ.rv k = γ0.rv k ∧ γ.cv k = γ0.cv k
theorem Inv.weak {e0 : Lk} {γ0 : Gh} {w0 : World} {a : Act} (h : Inv X e0 γ0 w0 S γ a w) : InvW X γ0 w0 S γ a w := ⟨h.rel, h.top, h.tmp, h.df, h.fr, h.i4, h.i2⟩
theorem InvW.inv {e0 : Lk} {γ0 : Gh} {w0 : World} {a : Act} (h : InvW X γ0 w0 S γ a w) (h3 : I3 e0 γ0 S γ) : Inv X e0 γ0 w0 S γ a w := ⟨h.rel, h.top, h.tmp, h.df, h.fr, h3, h.i4, h.i2⟩
theorem invW_empty {γ0 : Gh} {w0 : World} {a : Act} (h : InvW X γ0 w0 S γ a w) : InvW X γ0 w0 ⟨[], [], []⟩ γ a w :=
  ⟨⟨fun k cs hk => (by cases hk), fun k row hk => (by cases hk)⟩, h.top, ⟨h.tmp.1, fun t av ht => (by cases ht)⟩, h.df, h.fr, h.i4, h.i2⟩

/-! ### rows under other names, of other kinds -/
theorem RowR.relabelX {a : Rb} {O O' : OM} {r k d : Nat} {row : Row} {v : Value} {cs : List Value} (h : RowR X O w r row v cs) (ha : ownK row.ow = true → a.r r = some (k, d)) (hle : leK d row.ow = true ∨ (d = row.ow ∧ ownK row.ow = false ∧ row.ow ≠ 3))
    (hb : ∀ g o, w.heap[g]? = some o → InR r row.ow (O g) → w'.heap[g]? = some o ∧ O' g = (O g).bind a.f) : RowR X O' w' k { row with ow := d } v cs := by
  rcases hle with hle | ⟨rfl, ho, h3⟩
  · exact h.relabel ha hle hb
  · obtain ⟨τ, xs, ow⟩ := row
    simp only at ho h3 ⊢
    have hnot : ow ≠ 4 ∧ ow ≠ 5 := by constructor <;> (rintro rfl; simp [ownK] at ho)
    have tc : ∀ k, topC k ow = .bor := by
      intro k; simp only [topC, ho]
      try (split <;> first | exact absurd rfl h3 | rfl)
    have nc : ∀ k e c, nesC k e c ow = .bor := by
      intro k e c; simp only [nesC]
      try (split <;> first | rfl | (exfalso; omega))
    have cl : ∀ g, In .bor (O g) → In .bor ((O g).bind a.f) := by
      intro g hg
      rcases hg with hg | hg <;> rw [hg]
      · exact .inl rfl
      · exact .inr rfl
    refine ⟨h.top.re (c' := topC k ow) (fun g o hg hi => ?_) (by rw [tc]; exact fun h => (by cases h)), fun e c ct he hc => ?_⟩
    · obtain ⟨h1, h2⟩ := hb g o hg (.inl hi); simp only [tc] at hi; exact ⟨h1, by rw [h2, tc]; exact cl g hi⟩
    · obtain ⟨u, hu, hr⟩ := h.cel e c ct he hc
      exact ⟨u, hu, hr.re (c' := nesC k e c ow) (fun g o hg hi => by obtain ⟨h1, h2⟩ := hb g o hg (.inr ⟨e, c, hi⟩); simp only [nc] at hi; exact ⟨h1, by rw [h2, nc]; exact cl g hi⟩) (by rw [nc]; exact fun h => (by cases h))⟩

/-- which row comes under which name; of which kind -/
structure Ren (S T : St) (μ : Nat → Option Nat) (κ : Nat → Nat) (f : Cv → Cv) : Prop where
  inj : ∀ r r' k, μ r = some k → μ r' = some k → r = r'
  r1 : ∀ k row', T.lk.r k = some row' → ∃ r row, μ r = some k ∧ S.lk.r r = some row ∧ row' = { row with ow := κ r }
  r2 : ∀ r k row, μ r = some k → S.lk.r r = some row → T.lk.r k = some { row with ow := κ r }
  kk : ∀ r k row, μ r = some k → S.lk.r r = some row → leK (κ r) row.ow = true ∨ (κ r = row.ow ∧ ownK row.ow = false ∧ row.ow ≠ 3)
  v1 : ∀ k cs', T.lk.v k = some cs' → ∃ cs, S.lk.v k = some cs ∧ cs' = cs.map f
  t1 : ∀ t av', lk T.tm t = some av' → ∃ av, lk S.tm t = some av ∧ av' = mapV f av
  fu : f .un = .un
  fr : ∀ x, f x = .un ∨ (f x = x ∧ x.row = none ∧ ∀ k ∈ x.vk, ∀ cs, S.lk.v k = some cs → ∃ cs', T.lk.v k = some cs') ∨ ∃ r k, μ r = some k ∧
    ((x = .sw r ∧ f x = .sw k) ∨ (∃ o n, x = .sl r o n ∧ f x = .sl k o n) ∨ (∃ e c, x = .nw r e c ∧ f x = .nw k e c) ∨ (∃ e c o n, x = .ns r e c o n ∧ f x = .ns k e c o n) ∨
      (∃ e c, x = .pe r e c ∧ f x = .pe k e c) ∨ ∃ e c o n, x = .pn r e c o n ∧ f x = .pn k e c o n)
  i4 : ∀ r k, μ r = some k → 200000 ≤ k → k < 300000 → r = k


theorem Ren.ok {γ0 : Gh} {w0 : World} {a : Act} {μ : Nat → Option Nat} {κ : Nat → Nat} {f : Cv → Cv} (hn : Ren S T μ κ f) (h : InvW X γ0 w0 S γ a w) :
    ∃ γ', InvW X γ0 w0 T γ' a w ∧ ∀ r k row, μ r = some k → S.lk.r r = some row → γ'.rv k = γ.rv r ∧ γ'.cv k = γ.cv r := by
  classical
  let rb : Rb := ⟨fun r => match μ r, S.lk.r r with | some k, some _ => some (k, κ r) | _, _ => none, none, fun k => some (.v k)⟩
  let pre : Nat → Nat := fun k => if hk : ∃ r, μ r = some k then Classical.choose hk else k
  have hpre : ∀ r k, μ r = some k → pre k = r := by
    intro r k hr
    have hk : ∃ r, μ r = some k := ⟨r, hr⟩
    show (if hk : ∃ r, μ r = some k then Classical.choose hk else k) = r
    rw [dif_pos hk]
    exact hn.inj _ _ k (Classical.choose_spec hk) hr
  let γ' : Gh := ⟨fun g => (γ.O g).bind rb.f, fun k => γ.rv (pre k), fun k => γ.cv (pre k), γ.vb⟩
  have hval : ∀ r k, μ r = some k → γ'.rv k = γ.rv r ∧ γ'.cv k = γ.cv r := by
    intro r k hr
    exact ⟨by show γ.rv (pre k) = _; rw [hpre r k hr], by show γ.cv (pre k) = _; rw [hpre r k hr]⟩
  -- references
  have keep : ∀ x v, RelC S.lk γ x v → RelC T.lk γ' (f x) v := by
    intro x v hx
    rcases hn.fr x with he | ⟨he, hrow, hvk⟩ | ⟨r, k, hr, hc⟩
    · rw [he]; exact hx.one h.rel
    · rw [he]
      refine hx.re (fun r hr => by rw [hrow] at hr; cases hr) (fun r hr => by rw [hrow] at hr; cases hr) fun k hk => ⟨hvk k hk, rfl⟩
    · obtain ⟨h1, h2⟩ := hval r k hr
      rcases hc with ⟨rfl, he⟩ | ⟨o, n, rfl, he⟩ | ⟨e, c, rfl, he⟩ | ⟨e, c, o, n, rfl, he⟩ | ⟨e, c, rfl, he⟩ | ⟨e, c, o, n, rfl, he⟩ <;> rw [he]
      · obtain ⟨⟨row, hrow⟩, hv⟩ := hx
        exact ⟨⟨_, hn.r2 r k row hr hrow⟩, by rw [h1]; exact hv⟩
      · obtain ⟨row, hrow, hle, hs⟩ := hx
        exact ⟨_, hn.r2 r k row hr hrow, hle, by rw [h1]; exact hs⟩
      · obtain ⟨row, τ, ys, hrow, hle, hs, hu⟩ := hx
        exact ⟨_, τ, ys, hn.r2 r k row hr hrow, hle, hs, by rw [h2]; exact hu⟩
      · obtain ⟨row, τ, ys, u, hrow, hle, hs, hu, h5, h6⟩ := hx
        exact ⟨_, τ, ys, u, hn.r2 r k row hr hrow, hle, hs, by rw [h2]; exact hu, h5, h6⟩
      · obtain ⟨row, hrow, hle, hs⟩ := hx
        exact ⟨_, hn.r2 r k row hr hrow, hle, by rw [h1]; exact hs⟩
      · obtain ⟨row, τ, ys, u, hrow, hle, hs, hu, h5, h6⟩ := hx
        exact ⟨_, τ, ys, u, hn.r2 r k row hr hrow, hle, hs, by rw [h2]; exact hu, h5, h6⟩
  refine ⟨γ', ⟨⟨fun k cs' hk => ?_, fun k row' hk => ?_⟩, fun g hg => ?_, ⟨h.tmp.1, fun t av' ht => ?_⟩, h.df, ⟨h.fr.os, h.fr.tape, h.fr.output, h.fr.size, fun g hg ho => ?_, fun g hg => ?_⟩, fun k h1 h2 => ?_, h.i2⟩, fun r k row hr _ => hval r k hr⟩
  · obtain ⟨cs, hcs, rfl⟩ := hn.v1 k cs' hk
    obtain ⟨h1, cur, e, h2, h3⟩ := h.rel.vs k cs hcs
    exact ⟨by show (γ.O (γ.vb k)).bind rb.f = _; rw [h1]; rfl, cur, e, h2, h3.map keep⟩
  · obtain ⟨r, row, hr, hrow, rfl⟩ := hn.r1 k row' hk
    obtain ⟨h1, h2⟩ := hval r k hr
    rw [h1, h2]
    refine (h.rel.rs r row hrow).relabelX (a := rb) (O' := γ'.O) (k := k) (d := κ r) (fun _ => ?_) (hn.kk r k row hr hrow) fun g o hg _ => ⟨hg, rfl⟩
    show (match μ r, S.lk.r r with | some k, some _ => some (k, κ r) | _, _ => none) = _
    rw [hr, hrow]
  · show (γ.O g).bind rb.f = none
    rw [h.top g hg]; rfl
  · obtain ⟨av, hav, rfl⟩ := hn.t1 t av' ht
    exact (h.tmp.2 t av hav).map keep hn.fu
  · obtain ⟨h1, h2⟩ := h.fr.blk g hg ho
    refine ⟨?_, h2⟩
    show (γ.O g).bind rb.f = _
    rw [h1]
    rcases ho with ho | ho | ho <;> rw [ho] <;> rfl
  · show (γ.O g).bind rb.f = none
    rw [h.fr.top g hg]; rfl
  · show γ.rv (pre k) = _
    by_cases hk : ∃ r, μ r = some k
    · obtain ⟨r, hr⟩ := hk
      rw [hpre r k hr, hn.i4 r k hr h1 h2]; exact h.i4 k h1 h2
    · show γ.rv (if hk : ∃ r, μ r = some k then Classical.choose hk else k) = _
      rw [dif_neg hk]; exact h.i4 k h1 h2

end Go.Soft
