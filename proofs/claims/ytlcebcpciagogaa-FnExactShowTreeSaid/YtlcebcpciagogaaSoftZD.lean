/-
  SoftZD: only what is looked at later.
-/
import Derived.Test.YtlcebcpciagogaaSoftZC
set_option linter.constructorNameAsVariable false
set_option linter.unusedSimpArgs false
set_option linter.unusedVariables false
namespace Go.Soft
open Go
variable {X : Ctx} {m M : Lk} {γ γ' : Gh} {w w' : World} {ρ : Operand → Value} {S T : St} {δ δ' : Dl}

theorem mem_pickT {s : St} {t : Nat} {av : AV} : ∀ {l : List Nat}, (t, av) ∈ pickT s l → av = dropG (s.get t)
  | [], h => by cases h
  | x :: l, h => by
    rcases List.mem_cons.1 h with h | h
    · cases h; rfl
    · exact mem_pickT h
theorem mem_pickVs {vs : List (Nat × List Cv)} {k : Nat} {cs : List Cv} : ∀ {l : List Nat}, (k, cs) ∈ pickVs vs l → lk vs k = some cs
  | [], h => by cases h
  | x :: l, h => by
    simp only [pickVs] at h
    cases hx : lk vs x with
    | none => rw [hx] at h; exact mem_pickVs h
    | some c =>
      rw [hx] at h
      rcases List.mem_cons.1 h with h | h
      · cases h; exact hx
      · exact mem_pickVs h
theorem idxO_mem {v : Nat} : ∀ {l : List Nat} {i j : Nat}, idxO v i l = some j → v ∈ l
  | [], i, j, h => by cases h
  | x :: l, i, j, h => by
    simp only [idxO] at h
    cases hx : Nat.beq x v with
    | true => rw [nat_beq hx]; exact List.mem_cons_self
    | false => rw [hx] at h; exact List.mem_cons_of_mem _ (idxO_mem h)
theorem lk_append {α : Type} (a b : List (Nat × α)) (k : Nat) : lk (a ++ b) k = match lk a k with | some v => some v | none => lk b k := by
  induction a with
  | nil => rfl
  | cons p a ih =>
    obtain ⟨j, v⟩ := p
    simp only [List.cons_append, lk, ih]
    cases Nat.beq j k <;> rfl
theorem rowsIn_nodup : ∀ {l : List Cv} {acc : List Nat}, acc.Nodup → (rowsIn l acc).Nodup
  | [], acc, h => h
  | x :: l, acc, h => by
    simp only [rowsIn]
    cases x.row with
    | none => exact rowsIn_nodup h
    | some r =>
      simp only
      cases hi : idxO r 0 acc with
      | some _ => exact rowsIn_nodup h
      | none => exact rowsIn_nodup (List.nodup_append.2 ⟨h, by simp, fun a ha b hb => by simp at hb; subst hb; intro e; subst e; exact idxO_none hi ha⟩)
theorem allIn_mem {m : List Nat} : ∀ {l : List Nat}, allIn l m = true → ∀ x ∈ l, x ∈ m
  | [], _, x, hx => by cases hx
  | y :: l, h, x, hx => by
    simp only [allIn] at h
    cases hi : idxO y 0 m with
    | none => rw [hi] at h; cases h
    | some j =>
      rw [hi] at h
      rcases List.mem_cons.1 hx with rfl | hx
      · exact idxO_mem hi
      · exact allIn_mem h x hx

/-! ### the new names -/
theorem ren_mem {rs : List (Nat × Row)} : ∀ {l : List Nat} {k r v : Nat}, (r, v) ∈ renOf rs k l → r ∈ l ∧ ∃ row, lk rs r = some row ∧ ((keepK r row = true ∧ v = r) ∨ (keepK r row = false ∧ ∃ i, k ≤ i ∧ v = 500000 + i))
  | [], k, r, v, h => by cases h
  | x :: l, k, r, v, h => by
    simp only [renOf] at h
    cases hx : lk rs x with
    | none =>
      rw [hx] at h
      obtain ⟨h1, row, h2, h3⟩ := ren_mem h
      refine ⟨List.mem_cons_of_mem _ h1, row, h2, h3.imp id fun ⟨h4, i, h5, h6⟩ => ⟨h4, i, by omega, h6⟩⟩
    | some row =>
      rw [hx] at h
      rcases List.mem_cons.1 h with h | h
      · simp only [Prod.mk.injEq] at h
        obtain ⟨rfl, hv⟩ := h
        refine ⟨List.mem_cons_self, row, hx, ?_⟩
        cases hk : keepK r row with
        | true => rw [hk] at hv; exact .inl ⟨rfl, hv⟩
        | false => rw [hk] at hv; exact .inr ⟨rfl, k, Nat.le_refl _, hv⟩
      · obtain ⟨h1, row, h2, h3⟩ := ren_mem h
        refine ⟨List.mem_cons_of_mem _ h1, row, h2, h3.imp id fun ⟨h4, i, h5, h6⟩ => ⟨h4, i, by omega, h6⟩⟩
theorem keepK_range {r : Nat} {row : Row} (h : keepK r row = true) : 100000 ≤ r ∧ r ≤ 399999 ∧ (row.ow = 1 → 300000 ≤ r) := by
  simp only [keepK] at h
  cases h1 : Nat.ble 100000 r with
  | false => rw [h1] at h; simp at h
  | true =>
    have h1' := Nat.le_of_ble_eq_true h1
    cases h2 : Nat.ble r 299999 with
    | true =>
      have := Nat.le_of_ble_eq_true h2
      refine ⟨h1', by omega, fun ho => ?_⟩
      rw [h1, h2, ho] at h; simp at h
    | false =>
      have h2' : ¬ r ≤ 299999 := fun hle => by rw [Nat.ble_eq_true_of_le hle] at h2; cases h2
      cases h3 : Nat.ble r 399999 with
      | true => have := Nat.le_of_ble_eq_true h3; exact ⟨h1', this, fun _ => by omega⟩
      | false => rw [h1, h2, h3] at h; simp at h
theorem ren_inj {rs : List (Nat × Row)} : ∀ {l : List Nat} {k : Nat}, l.Nodup → ∀ {r r' v : Nat}, (r, v) ∈ renOf rs k l → (r', v) ∈ renOf rs k l → r = r'
  | [], k, _, r, r', v, h, _ => by cases h
  | x :: l, k, hn, r, r', v, h, h' => by
    have hnl := (List.nodup_cons.1 hn).2
    simp only [renOf] at h h'
    cases hx : lk rs x with
    | none => rw [hx] at h h'; exact ren_inj hnl h h'
    | some row =>
      rw [hx] at h h'
      -- one at the head and one behind it
      have cross : ∀ {y : Nat}, (match keepK x row with | true => x | false => 500000 + k) = v → (y, v) ∈ renOf rs (k + 1) l → x = y := by
        intro y hv hy
        obtain ⟨h1, row', h2, h3⟩ := ren_mem hy
        rcases h3 with ⟨h4, h5⟩ | ⟨h4, i, h5, h6⟩
        · have hr := keepK_range h4
          cases hk : keepK x row with
          | true => rw [hk] at hv; simp only at hv; omega
          | false => rw [hk] at hv; simp only at hv; omega
        · cases hk : keepK x row with
          | true => have hr := keepK_range hk; rw [hk] at hv; simp only at hv; omega
          | false => rw [hk] at hv; simp only at hv; omega
      rcases List.mem_cons.1 h with h | h <;> rcases List.mem_cons.1 h' with h' | h'
      · simp only [Prod.mk.injEq] at h h'; rw [h.1, h'.1]
      · simp only [Prod.mk.injEq] at h; rw [h.1]; exact cross h.2.symm h'
      · simp only [Prod.mk.injEq] at h'; rw [h'.1]; exact (cross h'.2.symm h).symm
      · exact ren_inj hnl h h'
theorem ren_nodup {rs : List (Nat × Row)} : ∀ {l : List Nat} {k : Nat}, l.Nodup → (keys (renOf rs k l)).Nodup
  | [], k, _ => by simp [renOf, keys]
  | x :: l, k, hn => by
    have hnl := List.nodup_cons.1 hn
    simp only [renOf]
    cases hx : lk rs x with
    | none => exact ren_nodup hnl.2
    | some row =>
      simp only [keys, List.nodup_cons]
      refine ⟨fun hm => ?_, ren_nodup hnl.2⟩
      obtain ⟨v, hv⟩ := keys_mem hm
      exact hnl.1 (ren_mem hv).1
theorem mem_rowsNew {rs : List (Nat × Row)} {k : Nat} {row : Row} : ∀ {l : List (Nat × Nat)}, (k, row) ∈ rowsNew rs l ↔ ∃ r, (r, k) ∈ l ∧ lk rs r = some row
  | [] => by simp [rowsNew]
  | (x, j) :: l => by
    simp only [rowsNew]
    cases hx : lk rs x with
    | none =>
      simp only [mem_rowsNew, List.mem_cons, Prod.mk.injEq]
      constructor
      · rintro ⟨r, h1, h2⟩; exact ⟨r, .inr h1, h2⟩
      · rintro ⟨r, h1 | h1, h2⟩
        · rw [h1.1, hx] at h2; cases h2
        · exact ⟨r, h1, h2⟩
    | some u =>
      simp only [List.mem_cons, mem_rowsNew, Prod.mk.injEq]
      constructor
      · rintro (⟨h1, h2⟩ | ⟨r, h1, h2⟩)
        · exact ⟨x, .inl ⟨rfl, h1⟩, by rw [hx, h2]⟩
        · exact ⟨r, .inr h1, h2⟩
      · rintro ⟨r, ⟨h1, h1'⟩ | h1, h2⟩
        · rw [h1, hx] at h2; cases h2; exact .inl ⟨h1', rfl⟩
        · exact .inr ⟨r, h1, h2⟩
theorem lk_mapTm (f : Cv → Cv) (l : List (Nat × AV)) (t : Nat) : lk (mapTm f l) t = (lk l t).map (mapV f) := by
  induction l with
  | nil => rfl
  | cons p l ih =>
    obtain ⟨k, v⟩ := p
    simp only [mapTm, lk, ih]
    cases Nat.beq k t <;> rfl
theorem lk_mapVs (f : Cv → Cv) (l : List (Nat × List Cv)) (t : Nat) : lk (mapVs f l) t = (lk l t).map (List.map f) := by
  induction l with
  | nil => rfl
  | cons p l ih =>
    obtain ⟨k, v⟩ := p
    simp only [mapVs, lk, ih, fmap_eq]
    cases Nat.beq k t <;> rfl
theorem keys_mapVs (f : Cv → Cv) (l : List (Nat × List Cv)) : keys (mapVs f l) = keys l := by
  induction l with
  | nil => rfl
  | cons p l ih => obtain ⟨k, v⟩ := p; simp only [mapVs, keys, ih]

theorem nlTm_plain : ∀ {x y : List (Nat × AV)} {k : Nat} {rs : List (Nat × Row)}, noG x → m.nlTm k x = (y, rs) → noG y
  | [], y, k, rs, hp, h => by cases h; exact hp
  | (t, av) :: l, y, k, rs, hp, h => by
    have hl : noG l := fun p hm => hp p (List.mem_cons_of_mem _ hm)
    have h0 : av.plain := hp (t, av) List.mem_cons_self
    cases h2 : m.nlTm (k + 64) l with
    | mk n rc =>
      have ih := nlTm_plain hl h2
      cases av with
      | c x =>
        simp only [Lk.nlTm, h2] at h; cases h
        intro p hp'
        rcases List.mem_cons.1 hp' with rfl | hp'
        · trivial
        · exact ih p hp'
      | a x =>
        simp only [Lk.nlTm, h2] at h; cases h
        intro p hp'
        rcases List.mem_cons.1 hp' with rfl | hp'
        · trivial
        · exact ih p hp'
      | t x =>
        simp only [Lk.nlTm, h2] at h; cases h
        intro p hp'
        rcases List.mem_cons.1 hp' with rfl | hp'
        · trivial
        · exact ih p hp'
      | g p q x => exact h0.elim
theorem noG_map {f : Cv → Cv} {l : List (Nat × AV)} (h : noG l) : noG (mapTm f l) := by
  induction l with
  | nil => exact h
  | cons p l ih =>
    obtain ⟨k, v⟩ := p
    intro q hq
    rcases List.mem_cons.1 hq with rfl | hq
    · have := h (k, v) List.mem_cons_self
      cases v with
      | g => exact this.elim
      | _ => trivial
    · exact ih (fun p hp => h p (List.mem_cons_of_mem _ hp)) q hq
theorem noG_pick (s : St) : ∀ l : List Nat, noG (pickT s l)
  | [] => fun p hp => by cases hp
  | t :: l => fun p hp => by
    rcases List.mem_cons.1 hp with rfl | hp
    · show (dropG (s.get t)).plain
      cases s.get t <;> trivial
    · exact noG_pick s l p hp
theorem noG_gfree (h : noG S.tm) : gfree S := fun t p q v hl => by have := h _ (lk_mem hl); exact this
theorem get_rel {a : Act} (hT : RelT X S γ a) (t : Nat) : RelA S.lk γ (S.get t) (a.tmps.getD t undef) := by
  simp only [St.get]
  cases hl : lk S.tm t with
  | none => trivial
  | some av => exact hT.2 t av hl

theorem prune_ok {e0 : Lk} {γ0 : Gh} {w0 : World} {a : Act} (ts vk : List Nat) (hI : InvW X γ0 w0 S γ a w) (h3 : I3v e0 γ0 S γ) :
    noG (S.prune ts vk).tm ∧ ∃ γ', Inv X e0 γ0 w0 (S.prune ts vk) γ' a w := by
  classical
  simp only [St.prune]
  cases ht : S.lk.nlTm 600000 (pickT S ts) with
  | mk tm r1 =>
    cases hv : S.lk.nlVs 700000 (pickVs S.vs vk) with
    | mk vs r2 =>
      simp only
      cases hc : nodupN (keys (r1 ++ r2)) && (disjN (keys (r1 ++ r2)) (keys S.rs) && kindsOk S.rs) with
      | false => exact ⟨fun p hp => (by cases hp), γ, (invW_empty hI).inv fun k row _ _ h => (by cases h)⟩
      | true =>
        simp only [Bool.and_eq_true] at hc
        obtain ⟨hnd, hdj, _⟩ := hc
        have hnd := nodupN_iff.1 hnd
        have hdj := disjN_iff.1 hdj
        simp only
        -- the new rows
        obtain ⟨V1, hV1, hV1'⟩ := nlTm_ok (X := X) hI.rel (VT := fun t => a.tmps.getD t undef) (fun p hp => by
          obtain ⟨t, av⟩ := p
          rw [mem_pickT hp]; exact dropG_rel (get_rel hI.tmp t)) ht
        obtain ⟨V2, hV2, hkv, hV2'⟩ := nlVs_ok (X := X) hI.rel (H := fun k u => γ.O (γ.vb k) = some (.v k) ∧ ∃ cur e, w.heap[γ.vb k]? = some (.cells cur e (0, 0)) ∧ cur.toList = u) (fun p hp => by
          obtain ⟨k, cs⟩ := p
          obtain ⟨h1, cur, e, h2, h3⟩ := hI.rel.vs k cs (mem_pickVs hp)
          exact ⟨cur.toList, ⟨h1, cur, e, h2, rfl⟩, h3⟩) hv
        have hV := hV1.append hV2
        have hkeys : ∀ j ∈ keys (r1 ++ r2), 600000 ≤ j := by
          intro j hj
          rw [keys_append, List.mem_append] at hj
          rcases hj with hj | hj
          · have := nlTm_keys (m := S.lk) (pickT S ts) 600000 j (by rw [ht]; exact hj); omega
          · have := nlVs_keys (m := S.lk) (pickVs S.vs vk) 700000 j (by rw [hv]; exact hj); omega
        -- the state with them
        let rs := r1 ++ (r2 ++ S.rs)
        let S1 : St := ⟨tm, vs ++ S.vs, rs⟩
        let γ1 : Gh := ⟨γ.O, fun k => match lk (V1 ++ V2) k with | some vc => vc.1 | none => γ.rv k, fun k => match lk (V1 ++ V2) k with | some vc => vc.2 | none => γ.cv k, γ.vb⟩
        have hrs : ∀ k, lk rs k = match lk (r1 ++ r2) k with | some row => some row | none => lk S.rs k := by
          intro k
          show lk (r1 ++ (r2 ++ S.rs)) k = _
          rw [← List.append_assoc]
          rw [lk_append]
          cases lk (r1 ++ r2) k <;> rfl
        have hlkV : ∀ k, k ∉ keys (r1 ++ r2) → lk (V1 ++ V2) k = none := fun k hk => lk_none.2 (by rw [hV.keys]; exact hk)
        have hold : ∀ r row, S.lk.r r = some row → S1.lk.r r = some row ∧ γ1.rv r = γ.rv r ∧ γ1.cv r = γ.cv r := by
          intro r row hr
          have hno : r ∉ keys (r1 ++ r2) := fun hm => hdj r hm (mem_keys (lk_mem hr))
          refine ⟨?_, ?_, ?_⟩
          · show lk rs r = _
            rw [hrs, lk_none.2 hno]; exact hr
          · show (match lk (V1 ++ V2) r with | some vc => vc.1 | none => γ.rv r) = _
            rw [hlkV r hno]
          · show (match lk (V1 ++ V2) r with | some vc => vc.2 | none => γ.cv r) = _
            rw [hlkV r hno]
        have hag : Ag S.lk γ (r1 ++ r2) (V1 ++ V2) S1.lk γ1 := by
          refine ⟨hold, fun k cs hk => ?_, rfl, fun k row hm => ?_, fun k vc hm => ?_⟩
          · show ∃ cs', lk (vs ++ S.vs) k = some cs'
            rw [lk_append]
            cases lk vs k with
            | some cs' => exact ⟨cs', rfl⟩
            | none => exact ⟨cs, hk⟩
          · show lk rs k = _
            rw [hrs, lk_of_mem hnd hm]
          · have : lk (V1 ++ V2) k = some vc := lk_of_mem (by rw [hV.keys]; exact hnd) hm
            exact ⟨by show (match lk (V1 ++ V2) k with | some vc => vc.1 | none => γ.rv k) = _; rw [this], by show (match lk (V1 ++ V2) k with | some vc => vc.2 | none => γ.cv k) = _; rw [this]⟩
        have hW1 : InvW X γ0 w0 S1 γ1 a w := by
          refine ⟨⟨fun k cs hk => ?_, fun k row hk => ?_⟩, hI.top, ⟨hI.tmp.1, fun t av hl => ?_⟩, hI.df, hI.fr, fun k h1 h2 => ?_, hI.i2⟩
          · have hk : lk (vs ++ S.vs) k = some cs := hk
            rw [lk_append] at hk
            cases hl : lk vs k with
            | some cs' =>
              rw [hl] at hk; cases hk
              obtain ⟨u, ⟨h1, cur, e, h2, rfl⟩, h4⟩ := hV2' S1.lk γ1 hag.right (k, cs) (lk_mem hl)
              exact ⟨h1, cur, e, h2, h4⟩
            | none =>
              rw [hl] at hk
              obtain ⟨h1, cur, e, h2, h4⟩ := hI.rel.vs k cs hk
              have := RelL.map (f := id) (fun x v hx => hag.old hx) h4
              rw [List.map_id] at this
              exact ⟨h1, cur, e, h2, this⟩
          · have hk : lk rs k = some row := hk
            rw [hrs] at hk
            cases hl : lk (r1 ++ r2) k with
            | some row' =>
              rw [hl] at hk; cases hk
              obtain ⟨vc, h1, h2⟩ := hV.get k row hl
              show RowR X γ.O w k row (match lk (V1 ++ V2) k with | some vc => vc.1 | none => γ.rv k) (match lk (V1 ++ V2) k with | some vc => vc.2 | none => γ.cv k)
              rw [h1]; exact h2
            | none =>
              rw [hl] at hk
              obtain ⟨_, h2, h3⟩ := hold k row hk
              rw [h2, h3]; exact hI.rel.rs k row hk
          · exact hV1' S1.lk γ1 hag.left (t, av) (lk_mem hl)
          · have hno : k ∉ keys (r1 ++ r2) := fun hm => by have := hkeys k hm; omega
            show (match lk (V1 ++ V2) k with | some vc => vc.1 | none => γ.rv k) = _
            rw [hlkV k hno]; exact hI.i4 k h1 h2
        -- the new names
        have hln : (rowsIn (vcs vs) (rowsIn (tmCs tm) [])).Nodup := rowsIn_nodup (rowsIn_nodup List.nodup_nil)
        generalize rowsIn (vcs vs) (rowsIn (tmCs tm) []) = rl at hln
        let μl := renOf rs 0 rl
        have hμn : (keys μl).Nodup := ren_nodup hln
        let f := rnCv μl (keys vs)
        let T : St := ⟨mapTm f tm, mapVs f vs, rowsNew rs μl⟩
        let κ : Nat → Nat := fun r => match lk rs r with | some row => row.ow | none => 0
        have hκ : ∀ r row, lk rs r = some row → ({ row with ow := κ r } : Row) = row := by
          intro r row hr
          have : κ r = row.ow := by show (match lk rs r with | some row => row.ow | none => 0) = _; rw [hr]
          rw [this]
        have hTr : ∀ k row, T.lk.r k = some row → ∃ r, (r, k) ∈ μl ∧ lk rs r = some row := fun k row hk => mem_rowsNew.1 (lk_mem hk)
        have hn : Ren S1 T (fun r => lk μl r) κ f := by
          refine ⟨fun r r' k h1 h2 => ren_inj hln (lk_mem h1) (lk_mem h2), fun k row hk => ?_, fun r k row h1 h2 => ?_, fun r k row h1 h2 => ?_, fun k cs' hk => ?_, fun t av' hl => ?_, rfl, fun x => ?_, fun r k h h1 h2 => ?_⟩
          · obtain ⟨r, h1, h2⟩ := hTr k row hk
            exact ⟨r, row, lk_of_mem hμn h1, h2, (hκ r row h2).symm⟩
          · have hm : (k, row) ∈ rowsNew rs μl := mem_rowsNew.2 ⟨r, lk_mem h1, h2⟩
            obtain ⟨row', hl⟩ := lk_some_of_mem hm
            obtain ⟨r', h3, h4⟩ := hTr k row' hl
            have : r' = r := ren_inj hln h3 (lk_mem h1)
            subst this
            have h2' : lk rs r' = some row := h2
            rw [h2'] at h4; cases h4
            rw [hκ r' row h2']; exact hl
          · have : κ r = row.ow := by show (match lk rs r with | some row => row.ow | none => 0) = _; rw [show lk rs r = some row from h2]
            rw [this]; exact kk_self row.ow
          · have hk : lk (mapVs f vs) k = some cs' := hk
            rw [lk_mapVs] at hk
            cases hl : lk vs k with
            | none => rw [hl] at hk; cases hk
            | some cs =>
              rw [hl] at hk; cases hk
              refine ⟨cs, ?_, rfl⟩
              show lk (vs ++ S.vs) k = _
              rw [lk_append, hl]
          · have hl : lk (mapTm f tm) t = some av' := hl
            rw [lk_mapTm] at hl
            cases hl' : lk tm t with
            | none => rw [hl'] at hl; cases hl
            | some av => rw [hl'] at hl; cases hl; exact ⟨av, by first | rfl | exact hl', rfl⟩
          · have hvar : ∀ k ∈ keys vs, ∃ cs', T.lk.v k = some cs' := by
              intro k hk
              obtain ⟨cs, hcs⟩ := mem_of_lk hk
              exact ⟨cs.map f, by show lk (mapVs f vs) k = _; rw [lk_mapVs, hcs]; rfl⟩
            cases x with
            | sw r =>
              show (match lk μl r with | some k => Cv.sw k | none => .un) = _ ∨ _
              cases hl : lk μl r with
              | none => exact .inl rfl
              | some k => exact .inr (.inr ⟨r, k, hl, .inl ⟨rfl, by show (match lk μl r with | some k => Cv.sw k | none => .un) = _; rw [hl]⟩⟩)
            | sl r o n =>
              show (match lk μl r with | some k => Cv.sl k o n | none => .un) = _ ∨ _
              cases hl : lk μl r with
              | none => exact .inl rfl
              | some k => exact .inr (.inr ⟨r, k, hl, .inr (.inl ⟨o, n, rfl, by show (match lk μl r with | some k => Cv.sl k o n | none => .un) = _; rw [hl]⟩)⟩)
            | nw r o n =>
              show (match lk μl r with | some k => Cv.nw k o n | none => .un) = _ ∨ _
              cases hl : lk μl r with
              | none => exact .inl rfl
              | some k => exact .inr (.inr ⟨r, k, hl, .inr (.inr (.inl ⟨o, n, rfl, by show (match lk μl r with | some k => Cv.nw k o n | none => .un) = _; rw [hl]⟩))⟩)
            | ns r e c o n =>
              show (match lk μl r with | some k => Cv.ns k e c o n | none => .un) = _ ∨ _
              cases hl : lk μl r with
              | none => exact .inl rfl
              | some k => exact .inr (.inr ⟨r, k, hl, .inr (.inr (.inr (.inl ⟨e, c, o, n, rfl, by show (match lk μl r with | some k => Cv.ns k e c o n | none => .un) = _; rw [hl]⟩)))⟩)
            | pe r o n =>
              show (match lk μl r with | some k => Cv.pe k o n | none => .un) = _ ∨ _
              cases hl : lk μl r with
              | none => exact .inl rfl
              | some k => exact .inr (.inr ⟨r, k, hl, .inr (.inr (.inr (.inr (.inl ⟨o, n, rfl, by show (match lk μl r with | some k => Cv.pe k o n | none => .un) = _; rw [hl]⟩))))⟩)
            | pn r e c o n =>
              show (match lk μl r with | some k => Cv.pn k e c o n | none => .un) = _ ∨ _
              cases hl : lk μl r with
              | none => exact .inl rfl
              | some k => exact .inr (.inr ⟨r, k, hl, .inr (.inr (.inr (.inr (.inr ⟨e, c, o, n, rfl, by show (match lk μl r with | some k => Cv.pn k e c o n | none => .un) = _; rw [hl]⟩))))⟩)
            | pv v c =>
              cases hi : idxO v 0 (keys vs) with
              | none => exact .inl (by show (match idxO v 0 (keys vs) with | some _ => Cv.pv v c | none => .un) = _; rw [hi])
              | some j => exact .inr (.inl ⟨by show (match idxO v 0 (keys vs) with | some _ => Cv.pv v c | none => .un) = _; rw [hi], rfl, fun k hk _ _ => by simp [Cv.vk] at hk; subst hk; exact hvar k (idxO_mem hi)⟩)
            | fn g caps =>
              cases hi : allIn caps (keys vs) with
              | false => exact .inl (by show (match allIn caps (keys vs) with | true => Cv.fn g caps | false => .un) = _; rw [hi])
              | true => exact .inr (.inl ⟨by show (match allIn caps (keys vs) with | true => Cv.fn g caps | false => .un) = _; rw [hi], rfl, fun k hk _ _ => hvar k (allIn_mem hi k hk)⟩)
            | _ => exact .inr (.inl ⟨rfl, rfl, fun k hk => by simp [Cv.vk] at hk⟩)
          · obtain ⟨_, row, _, h3⟩ := ren_mem (lk_mem h)
            rcases h3 with ⟨_, h4⟩ | ⟨_, i, _, h4⟩ <;> omega
        refine ⟨noG_map (nlTm_plain (noG_pick S ts) ht), ?_⟩
        obtain ⟨γ', h1, h2⟩ := hn.ok hW1
        refine ⟨γ', h1.inv fun k row hk1 hk2 hk3 hk4 => ?_⟩
        obtain ⟨r, hr1, hr2⟩ := hTr k row hk3
        obtain ⟨_, row', hr3, hr4⟩ := ren_mem hr1
        rw [hr2] at hr3; cases hr3
        rcases hr4 with ⟨h5, h6⟩ | ⟨_, i, _, h6⟩
        · subst h6
          have h7 := (keepK_range h5).2.2 hk4
          have hno : k ∉ keys (r1 ++ r2) := fun hm => by have := hkeys k hm; omega
          have h8 : S.lk.r k = some row := by rw [hrs, lk_none.2 hno] at hr2; exact hr2
          obtain ⟨i1, i2, i3⟩ := h3 k row h7 hk2 h8 hk4
          obtain ⟨j1, j2⟩ := h2 k k row (lk_of_mem hμn hr1) hr2
          obtain ⟨_, j3, j4⟩ := hold k row h8
          exact ⟨i1, by rw [j1, j3, i2], by rw [j2, j4, i3]⟩
        · omega

end Go.Soft
