/-
  SoftZF: what a function hands back.
-/
import Derived.Test.YtlcebcpciagogaaSoftZE
set_option linter.constructorNameAsVariable false
set_option linter.unusedSimpArgs false
set_option linter.unusedVariables false
namespace Go.Soft
open Go
variable {X : Ctx} {m M : Lk} {γ γ' : Gh} {w w' : World} {ρ : Operand → Value} {S T : St} {δ δ' : Dl}

/-- the first of a row -/
theorem RowR.pre {O : OM} {k d : Nat} {τ : Ty} {xs : List (El τ)} {v u : Value} {cs : List Value} (hd : hdK d = true) (h : RowR X O w k ⟨τ, xs, d⟩ v cs) {len : Nat} (hle : len ≤ xs.length) (hs : SubV (sz τ) v 0 len u) :
    RowR X O w k ⟨τ, sub xs 0 len, d⟩ u (cs.take (len * sz τ)) := by
  have hl : (sub xs 0 len).length = len := sub_length xs (by omega)
  have own : ∀ t, w.ownsRow 0 (X.id τ) (sz τ) v xs.length cs → (∀ g, v.ownBlock = some g → O g = some t) → w.ownsRow 0 (X.id τ) (sz τ) u len (cs.take (len * sz τ)) ∧ ∀ g, u.ownBlock = some g → O g = some t := by
    intro t ho hb
    rcases hs with ⟨rfl, rfl, rfl⟩ | ⟨g, o, n, cap, o', cap', rfl, rfl, ⟨h1, h2⟩, h3, h4, _⟩
    · exact ⟨by simpa using World.ownsRow_nil w 0 _ _, by simp [Value.ownBlock]⟩
    · obtain ⟨hlen, ho⟩ := ho
      rcases ho with ⟨hn, _⟩ | ⟨g', cap2, cur, hv, hb', hg, hnc, hmx, hsz, ht⟩
      · cases hn
      · injection hv with e1 e2 e3
        injection e1 with e1
        injection e1 with e4 e5 _
        subst e4; subst e5; subst e3
        have ho' : o' = 0 := by omega
        subst ho'
        have hcc : cap' = cap := by omega
        subst hcc
        have hm : len * sz τ ≤ xs.length * sz τ := Nat.mul_le_mul_right _ hle
        refine ⟨⟨by rw [List.length_take]; omega, .inr ⟨g, cap', cur, rfl, hb', hg, h1, hmx, hsz, ?_⟩⟩, fun b hb2 => hb b (by simpa [Value.ownBlock] using hb2)⟩
        rw [← ht, List.take_take]; congr 1; omega
  refine ⟨?_, fun e c ct he hc => ?_⟩
  · show Sl X O w (topC k d) τ u (sub xs 0 len).length _
    rw [hl]
    have ht := h.top
    rcases hdK_cases hd with rfl | rfl | rfl
    · have ht : SlF (fun g => In .fz (O g)) w (sz τ) v xs.length cs := ht
      have h2 := ht.sub (off := 0) (len := len) (by omega) hs
      have h3 : SlF (fun g => In .fz (O g)) w (sz τ) u len (cs.take (len * sz τ)) := by simpa using h2
      exact h3
    · exact own _ ht.1 ht.2
    · exact own _ ht.1 ht.2
  · have he : e < (sub xs 0 len).length := he
    rw [hl] at he
    have hc : (cells τ ((sub xs 0 len).getD e (dflt τ)))[c]? = some ct := hc
    rw [sub_getD xs _ he, Nat.zero_add] at hc
    obtain ⟨x, hx, hr⟩ := h.cel e c ct (show e < xs.length by omega) hc
    refine ⟨x, ?_, hr⟩
    have hc' : c < sz τ := by have := (List.getElem?_eq_some_iff.1 hc).1; rwa [cells_length] at this
    have : e * sz τ + c < len * sz τ := by
      have := Nat.mul_le_mul_right (sz τ) (show e + 1 ≤ len from he)
      rw [Nat.add_mul] at this; omega
    show (cs.take (len * sz τ))[e * sz τ + c]? = _
    rw [List.getElem?_take, if_pos this]; exact hx

/-! ### whose the blocks are at the end -/
def rbE (G : List (Nat × Nat)) : Rb := ⟨fun r => some (r, match lk G r with | some d => d | none => 5), none, fun k => some (.v k)⟩
def endO (G : List (Nat × Nat)) (O : OM) : OM := fun g => (O g).bind (rbE G).f
theorem rbE_no {G : List (Nat × Nat)} {r : Nat} (h : r ∉ keys G) : (rbE G).r r = some (r, 5) := by
  show some (r, match lk G r with | some d => d | none => 5) = _
  rw [lk_none.2 h]
theorem endO_fam {G : List (Nat × Nat)} {O : OM} {r g : Nat} (h : r ∉ keys G) (hf : Fam r (O g)) : Fam r (endO G O g) := by
  have e1 : (rbE G).f (.r r) = some (.r r) := by simp only [Rb.f, rbE_no h]; rfl
  have e2 : ∀ e c, (rbE G).f (.n r e c) = some (.n r e c) := fun e c => by simp only [Rb.f, rbE_no h]; rfl
  simp only [endO]
  rcases hf with hf | hf | hf | ⟨e, c, hf⟩ <;> rw [hf]
  · exact .inl rfl
  · exact .inr (.inl rfl)
  · exact .inr (.inr (.inl e1))
  · exact .inr (.inr (.inr ⟨e, c, e2 e c⟩))
theorem handed_ok (hR : Rel X m γ w) {G : List (Nat × Nat)} {r d : Nat} {row : Row} (hr : m.r r = some row) (hG : lk G r = some d) (hle : leK d row.ow = true) :
    RowR X (endO G γ.O) w r { row with ow := d } (γ.rv r) (γ.cv r) :=
  (hR.rs r row hr).relabel (a := rbE G) (fun _ => by show some (r, match lk G r with | some d => d | none => 5) = _; rw [hG]) hle fun g o hg _ => ⟨hg, rfl⟩

section
variable {e0 : Lk} {γ0 : Gh} {w0 : World} {a : Act}
theorem keyA_inv {r p j : Nat} (h : keyA r = some (p, j)) : r = 100000 + p * 64 + j ∧ j < 64 ∧ 100000 ≤ r ∧ r < 200000 := by
  simp only [keyA] at h
  revert h; split
  · rename_i h1 h2
    intro h
    have h1 := Nat.le_of_ble_eq_true h1
    have h2 := Nat.le_of_ble_eq_true h2
    simp only [Option.some.injEq, Prod.mk.injEq] at h
    obtain ⟨rfl, rfl⟩ := h
    omega
  · intro h; cases h
theorem bor1_inv {r : Nat} (h : m.bor1 r = true) : ∃ row, m.r r = some row ∧ row.ow = 1 := by
  simp only [Lk.bor1] at h
  cases hr : m.r r with
  | none => rw [hr] at h; cases h
  | some row => rw [hr] at h; exact ⟨row, rfl, nat_beq h⟩

theorem outM_ok (hI : Inv X e0 γ0 w0 S γ a w) {x : Cv} {y : Ct} {v : Value} (hx : RelC S.lk γ x v) (h : (S.lk.vw x).ct = some y) {G : List (Nat × Nat)} (hs : ∀ r ∈ x.rk, r ∉ keys G) :
    RelRc X e0 γ0 (keys G) (endO G γ.O) w 1 (.m y) v [] := by
  refine ⟨rfl, hx.one hI.rel, ?_⟩
  cases y with
  | l τ xs =>
    have ⟨⟨cs, hv⟩, _⟩ := vw_vis (Le.refl _) hI.rel hx h
    refine ⟨cs, hv.mono fun g o hg ha => ⟨hg, ?_⟩⟩
    simp only [RefA] at ha
    cases hr : x.row with
    | none => rw [hr] at ha; exact ha.elim
    | some r =>
      rw [hr] at ha
      have hno := hs r (by simp [Cv.rk, hr])
      exact ⟨r, hno, endO_fam hno ha⟩
  | _ => revert h; cases S.lk.vw x <;> simp [Vw.ct]

theorem outC_ok (hI : Inv X e0 γ0 w0 S γ a w) {wd : Nat} {x : Cv} {y : Rc} {ks : List Nat} {v : Value} (hx : RelC S.lk γ x v) (h : S.lk.outC wd x = some (y, ks)) {G : List (Nat × Nat)} (hG : ∀ r ∈ ks, lk G r = some wd)
    (hs : wd = 1 → ∀ r ∈ x.rk, r ∉ keys G) : RelRc X e0 γ0 (keys G) (endO G γ.O) w wd y v ks := by
  have one := hx.one hI.rel
  have unk : ∀ {y : Rc} {ks : List Nat}, some (Rc.un, ([] : List Nat)) = some (y, ks) → RelRc X e0 γ0 (keys G) (endO G γ.O) w wd y v ks := by
    intro y ks h; cases h; exact ⟨rfl, one⟩
  -- a reference
  have own : ∀ {y : Rc} {ks : List Nat} {τ : Ty} {xs : List (El τ)} {r : Nat} {cs : List Value}, hdK wd = true → RowR X (endO G γ.O) w r ⟨τ, xs, wd⟩ v cs → some (Rc.c (.l τ xs), [r]) = some (y, ks) → RelRc X e0 γ0 (keys G) (endO G γ.O) w wd y v ks := by
    intro y ks τ xs r cs hd hr h
    cases h
    exact ⟨hd, .inr ⟨r, cs, rfl, hr⟩⟩
  have mm : ∀ {y : Rc} {ks : List Nat}, wd = 1 → (match (S.lk.vw x).ct with | some y => some (Rc.m y, ([] : List Nat)) | none => none) = some (y, ks) → RelRc X e0 γ0 (keys G) (endO G γ.O) w wd y v ks := by
    intro y ks h1 h
    cases hc : (S.lk.vw x).ct with
    | none => rw [hc] at h; cases h
    | some c => rw [hc] at h; cases h; subst h1; exact outM_ok hI hx hc (hs rfl)
  cases x with
  | un =>
    simp only [Lk.outC] at h
    revert h; split
    · exact unk
    · intro h; cases h
  | b z => cases h; exact ⟨rfl, hx⟩
  | i k n => cases h; exact ⟨rfl, hx⟩
  | s z => cases h; exact ⟨rfl, hx⟩
  | nl τ =>
    simp only [Lk.outC] at h
    revert h; split
    · intro h; cases h
      exact ⟨rfl, one, [], ⟨by simp, .inl ⟨hx, rfl⟩⟩, fun e c ct he => by simp at he⟩
    · exact unk
    · cases hd : hdK wd with
      | false => intro h; cases h
      | true => intro h; cases h; exact ⟨hd, .inl ⟨rfl, hx, rfl⟩⟩
  | sw r =>
    obtain ⟨⟨row, hr⟩, hv⟩ := hx
    simp only [Lk.outC] at h
    revert h; split
    · exact mm rfl
    · exact unk
    · split
      · rename_i p j hk hb
        intro h; cases h
        obtain ⟨h1, h2, h3, h4⟩ := keyA_inv hk
        obtain ⟨row', hr', ho⟩ := bor1_inv hb
        rw [hr] at hr'; cases hr'
        obtain ⟨i1, i2, i3⟩ := hI.i3 r row h3 (by omega) hr ho
        subst h1
        exact ⟨rfl, row, h2, h4, i1, by rw [hv, i2]⟩
      · intro h; cases h
    · rw [hr]; simp only
      cases hd : hdK wd with
      | false => intro h; cases h
      | true =>
        cases hle : leK wd row.ow with
        | false => intro h; cases h
        | true =>
          intro h
          have hrow := handed_ok hI.rel (G := G) hr (d := wd) (hG r (by cases h; simp)) hle
          rw [← hv] at hrow
          exact own hd hrow h
  | sl r off len =>
    obtain ⟨row, hr, hle', hsub⟩ := hx
    simp only [Lk.outC] at h
    revert h; split
    · exact mm rfl
    · exact unk
    · intro h; cases h
    · cases off with
      | succ off => intro h; cases h
      | zero =>
        simp only [hr]
        cases hd : hdK wd with
        | false => intro h; cases h
        | true =>
          cases hle : leK wd row.ow with
          | false => intro h; cases h
          | true =>
            intro h
            have hrow := handed_ok hI.rel (G := G) hr (d := wd) (hG r (by cases h; simp)) hle
            exact own hd (hrow.pre hd (by omega) hsub) h
  | nw r e c =>
    obtain ⟨row, τ, ys, hr, he, hc, hu⟩ := hx
    simp only [Lk.outC] at h
    revert h; split
    · exact mm rfl
    · exact unk
    · split
      · rename_i p j hk hb
        intro h; cases h
        obtain ⟨h1, h2, h3, h4⟩ := keyA_inv hk
        obtain ⟨row', hr', ho⟩ := bor1_inv hb
        rw [hr] at hr'; cases hr'
        obtain ⟨i1, i2, i3⟩ := hI.i3 r row h3 (by omega) hr ho
        subst h1
        exact ⟨rfl, row, τ, ys, h2, h4, i1, he, hc, by rw [← i3]; exact hu⟩
      · intro h; cases h
    · intro h; cases h
  | ns r e c off len =>
    simp only [Lk.outC] at h
    revert h; split
    · exact mm rfl
    · exact unk
    · intro h; cases h
    · intro h; cases h
  | pv k c =>
    simp only [Lk.outC] at h
    revert h; split
    · exact mm rfl
    · exact unk
    · intro h; cases h
    · intro h; cases h
  | pe r e c =>
    simp only [Lk.outC] at h
    revert h; split
    · exact mm rfl
    · exact unk
    · intro h; cases h
    · intro h; cases h
  | pn r e c k d =>
    simp only [Lk.outC] at h
    revert h; split
    · exact mm rfl
    · exact unk
    · intro h; cases h
    · intro h; cases h
  | fn f caps =>
    simp only [Lk.outC] at h
    revert h; split
    · exact mm rfl
    · exact unk
    · intro h; cases h
    · intro h; cases h

/-- of which kind each row is handed back -/
def gOf (ks : List Nat) (d : Nat) : List (Nat × Nat) := ks.map fun r => (r, d)
theorem keys_gOf (ks : List Nat) (d : Nat) : keys (gOf ks d) = ks := by simp [gOf, keys_eq, Function.comp_def]
theorem gOf_mem {ks : List Nat} {d : Nat} {G : List (Nat × Nat)} (h : ∀ p ∈ gOf ks d, lk G p.1 = some p.2) : ∀ r ∈ ks, lk G r = some d := fun r hr => h (r, d) (List.mem_map.2 ⟨r, hr, rfl⟩)

theorem outCs_ok (hI : Inv X e0 γ0 w0 S γ a w) : ∀ {l : List Cv} {us : List Value} {ms : List Nat} {ys : List Rc} {ks : List Nat}, RelL S.lk γ l us → S.lk.outCs ms l = some (ys, ks) →
    ∃ g, keys g = ks ∧ ∀ G, (∀ p ∈ g, lk G p.1 = some p.2) → (∀ r ∈ shCs ms l, r ∉ keys G) → RelRcs X e0 γ0 (keys G) (endO G γ.O) w ms ys us ks
  | [], us, ms, ys, ks, hl, h => by cases hl; cases h; exact ⟨[], rfl, fun G _ _ => .nil⟩
  | x :: l, us, ms, ys, ks, hl, h => by
    cases hl with
    | cons hx hl =>
      simp only [Lk.outCs] at h
      cases h1 : S.lk.outC (hd ms) x with
      | none => simp [h1] at h
      | some p =>
        obtain ⟨y, k⟩ := p
        cases h2 : S.lk.outCs (tl ms) l with
        | none => simp [h1, h2] at h
        | some q =>
          obtain ⟨yl, kl⟩ := q
          simp only [h1, h2, Option.some.injEq, Prod.mk.injEq] at h
          obtain ⟨rfl, rfl⟩ := h
          obtain ⟨g, hg, ih⟩ := outCs_ok hI hl h2
          refine ⟨gOf k (hd ms) ++ g, by rw [keys_append, keys_gOf, hg], fun G hG hs => .cons (outC_ok hI hx h1 (gOf_mem fun p hp => hG p (List.mem_append_left _ hp)) fun hm r hr => hs r ?_) (ih G (fun p hp => hG p (List.mem_append_right _ hp)) fun r hr => hs r ?_)⟩
          · simp only [shCs, hm, List.mem_append]; exact .inl hr
          · simp only [shCs, List.mem_append]; exact .inr hr
theorem outTs_ok (hI : Inv X e0 γ0 w0 S γ a w) : ∀ {l : List (Bool × List Cv)} {us : List Value} {ms : List (List Nat)} {ys : List (Bool × List Rc)} {ks : List Nat}, RelTs S.lk γ l us → S.lk.outTs ms l = some (ys, ks) →
    ∃ g, keys g = ks ∧ ∀ G, (∀ p ∈ g, lk G p.1 = some p.2) → (∀ r ∈ shTs ms l, r ∉ keys G) → RelRts X e0 γ0 (keys G) (endO G γ.O) w ms ys us ks
  | [], us, ms, ys, ks, hl, h => by cases hl; cases h; exact ⟨[], rfl, fun G _ _ => .nil⟩
  | (b, x) :: l, us, ms, ys, ks, hl, h => by
    cases hl with
    | cons hx hl =>
      obtain ⟨u, hu, hb1, hb2⟩ := hx
      simp only [Lk.outTs] at h
      cases h1 : S.lk.outCs (hdL ms) x with
      | none => simp [h1] at h
      | some p =>
        obtain ⟨y, k⟩ := p
        cases h2 : S.lk.outTs (tl ms) l with
        | none => simp [h1, h2] at h
        | some q =>
          obtain ⟨yl, kl⟩ := q
          simp only [h1, h2, Option.some.injEq, Prod.mk.injEq] at h
          obtain ⟨rfl, rfl⟩ := h
          obtain ⟨g1, hg1, i1⟩ := outCs_ok hI hu h1
          obtain ⟨g, hg, ih⟩ := outTs_ok hI hl h2
          refine ⟨g1 ++ g, by rw [keys_append, hg1, hg], fun G hG hs => .cons (i1 G (fun p hp => hG p (List.mem_append_left _ hp)) fun r hr => hs r ?_) hb1 hb2 (ih G (fun p hp => hG p (List.mem_append_right _ hp)) fun r hr => hs r ?_)⟩
          · simp only [shTs, List.mem_append]; exact .inl hr
          · simp only [shTs, List.mem_append]; exact .inr hr
theorem outR_ok (hI : Inv X e0 γ0 w0 S γ a w) {v : AV} {u : Value} {rl : List (List Nat)} {rc : RC} {ks : List Nat} (hv : RelA S.lk γ v u) (h : S.lk.outR rl v = some (rc, ks)) :
    ∃ g, keys g = ks ∧ ∀ G, (∀ p ∈ g, lk G p.1 = some p.2) → (∀ r ∈ S.lk.shR rl v, r ∉ keys G) → RelRes X e0 γ0 (keys G) (endO G γ.O) w rl rc u ks := by
  cases v with
  | c x =>
    -- one cell
    have one : RelC S.lk γ x u → (match S.lk.outC (hd (hdL rl)) x with | some (y, a) => some (RC.c y, a) | none => none) = some (rc, ks) → S.lk.shR rl (.c x) = shCs (hdL rl) [x] →
        ∃ g, keys g = ks ∧ ∀ G, (∀ p ∈ g, lk G p.1 = some p.2) → (∀ r ∈ S.lk.shR rl (.c x), r ∉ keys G) → RelRes X e0 γ0 (keys G) (endO G γ.O) w rl rc u ks := by
      intro hx h hsh
      cases h1 : S.lk.outC (hd (hdL rl)) x with
      | none => rw [h1] at h; cases h
      | some p =>
        obtain ⟨y, k⟩ := p
        rw [h1] at h; cases h
        refine ⟨gOf ks (hd (hdL rl)), keys_gOf _ _, fun G hG hs => outC_ok hI hx h1 (gOf_mem hG) fun hm r hr => hs r ?_⟩
        rw [hsh]
        simp only [shCs, hm, List.mem_append]; exact .inl hr
    cases x with
    | un => cases h
    | pv k c =>
      simp only [Lk.outR] at h
      revert h; split
      · rename_i cs h1 h2 h3
        intro h
        have h1 := Nat.le_of_ble_eq_true h1
        have h2 := nat_beq h2
        subst h2
        obtain ⟨_, hu⟩ := hv
        obtain ⟨b1, cur, e, b2, b3⟩ := hI.rel.vs k cs h3
        cases h4 : S.lk.outCs (hdL rl) cs with
        | none => rw [h4] at h; cases h
        | some p =>
          obtain ⟨y, k'⟩ := p
          rw [h4] at h; cases h
          obtain ⟨g, hg, i1⟩ := outCs_ok hI b3 h4
          refine ⟨g, hg, fun G hG hs => ⟨k, γ.vb k, cur, e, h1, hu, ?_, b2, i1 G hG fun r hr => hs r ?_⟩⟩
          · simp only [endO, b1]; rfl
          · simp only [Lk.shR, h3]; exact hr
      · intro h; cases h
    | b x => exact one (RelA.to hv (by simp)) h rfl
    | i k n => exact one (RelA.to hv (by simp)) h rfl
    | s x => exact one (RelA.to hv (by simp)) h rfl
    | nl τ => exact one (RelA.to hv (by simp)) h rfl
    | sw r => exact one (RelA.to hv (by simp)) h rfl
    | sl r o n => exact one (RelA.to hv (by simp)) h rfl
    | nw r e c => exact one (RelA.to hv (by simp)) h rfl
    | ns r e c o n => exact one (RelA.to hv (by simp)) h rfl
    | pe r e c => exact one (RelA.to hv (by simp)) h rfl
    | pn r e c o n => exact one (RelA.to hv (by simp)) h rfl
    | fn f caps => exact one (RelA.to hv (by simp)) h rfl
  | a l =>
    obtain ⟨us, hu, hl⟩ := hv
    simp only [Lk.outR] at h
    cases h4 : S.lk.outCs (hdL rl) l with
    | none => rw [h4] at h; cases h
    | some p =>
      obtain ⟨y, k'⟩ := p
      rw [h4] at h; cases h
      obtain ⟨g, hg, i1⟩ := outCs_ok hI hl h4
      exact ⟨g, hg, fun G hG hs => ⟨us, hu, i1 G hG fun r hr => hs r hr⟩⟩
  | t l =>
    obtain ⟨us, hu, hl⟩ := hv
    cases l with
    | nil =>
      cases hl; cases h
      exact ⟨[], rfl, fun G hG hs => ⟨rfl, hu⟩⟩
    | cons p l =>
      simp only [Lk.outR] at h
      cases h4 : S.lk.outTs rl (p :: l) with
      | none => rw [h4] at h; cases h
      | some q =>
        obtain ⟨y, k'⟩ := q
        rw [h4] at h; cases h
        obtain ⟨g, hg, i1⟩ := outTs_ok hI hl h4
        exact ⟨g, hg, fun G hG hs => ⟨us, hu, i1 G hG fun r hr => hs r hr⟩⟩
  | g p q v => cases h

/-! ### variables, and rows that are written in their place -/
theorem outV_ok (hI : Inv X e0 γ0 w0 S γ a w) {k : Nat} : ∀ {l : List Cv} {us : List Value} {ms : List Nat} {j : Nat} {ys : List Ct} {ks : List Nat}, RelL S.lk γ l us → S.lk.outV k j ms l = some (ys, ks) →
    ∃ g, keys g = ks ∧ ∀ G, (∀ p ∈ g, lk G p.1 = some p.2) → RelVcs X γ0 (endO G γ.O) w (300000 + k * 64 + j) ms ys us ks
  | [], us, ms, j, ys, ks, hl, h => by cases hl; cases h; exact ⟨[], rfl, fun G _ => .nil⟩
  | x :: l, us, ms, j, ys, ks, hl, h => by
    cases hl with
    | cons hx hl =>
      rename_i v us
      simp only [Lk.outV] at h
      cases h2 : S.lk.outV k (j + 1) (tl ms) l with
      | none => rw [h2] at h; cases h
      | some q =>
        obtain ⟨yl, kl⟩ := q
        rw [h2] at h; simp only at h
        obtain ⟨g, hg, ih⟩ := outV_ok hI hl h2
        have fin : ∀ {y : Ct} {k1 : List Nat} {ys : List Ct} {ks : List Nat}, (∀ G, (∀ r ∈ k1, lk G r = some (hd ms)) → RelVc X γ0 (endO G γ.O) w (300000 + k * 64 + j) (hd ms) y v k1) → some (y :: yl, k1 ++ kl) = some (ys, ks) →
            ∃ g, keys g = ks ∧ ∀ G, (∀ p ∈ g, lk G p.1 = some p.2) → RelVcs X γ0 (endO G γ.O) w (300000 + k * 64 + j) ms ys (v :: us) ks := by
          intro y k1 ys ks hr h
          cases h
          exact ⟨gOf k1 (hd ms) ++ g, by rw [keys_append, keys_gOf, hg], fun G hG => .cons (hr G (gOf_mem fun p hp => hG p (List.mem_append_left _ hp))) (ih G fun p hp => hG p (List.mem_append_right _ hp))⟩
        revert h; split
        · rename_i hm
          split
          · intro h; exact fin (k1 := []) (fun G _ => by rw [hm]; exact ⟨rfl, hx, trivial⟩) h
          · intro h; exact fin (k1 := []) (fun G _ => by rw [hm]; exact ⟨rfl, hx, trivial⟩) h
          · intro h; exact fin (k1 := []) (fun G _ => by rw [hm]; exact ⟨rfl, hx, trivial⟩) h
          · intro h; cases h
        · rename_i hm
          split
          · rename_i r
            split
            · rename_i y h1 h3
              intro h
              simp only [Bool.and_eq_true] at h1
              have hrk := nat_beq h1.1
              have hr4 := Nat.le_of_ble_eq_true h1.2.1
              obtain ⟨row, hr, ho⟩ := bor1_inv h1.2.2
              obtain ⟨_, hv⟩ := hx
              obtain ⟨_, i2, _⟩ := hI.i3 r row (by omega) (by omega) hr ho
              refine fin (k1 := []) (fun G _ => ?_) h
              rw [hm]; exact ⟨rfl, by rw [hv, i2, hrk]⟩
            · intro h; cases h
          · intro h; cases h
        · rename_i hm0 hm1
          have big : ∀ {τ : Ty} {xs : List (El τ)} {k1 : List Nat} (G : List (Nat × Nat)), hdK (hd ms) = true → NewR X (endO G γ.O) w (hd ms) τ xs v k1 → RelVc X γ0 (endO G γ.O) w (300000 + k * 64 + j) (hd ms) (.l τ xs) v k1 := by
            intro τ xs k1 G h1 h2
            simp only [RelVc]
            revert h1 h2
            generalize hd ms = md at hm0 hm1
            intro h1 h2
            rcases hdK_cases h1 with rfl | rfl | rfl <;> exact ⟨h1, h2⟩
          split
          · rename_i τ
            cases hd' : hdK (hd ms) with
            | false => intro h; cases h
            | true => intro h; exact fin (k1 := []) (fun G _ => big G hd' (.inl ⟨rfl, hx, rfl⟩)) h
          · rename_i r
            obtain ⟨⟨row, hr⟩, hv⟩ := hx
            rw [hr]; simp only
            cases hd' : hdK (hd ms) with
            | false => intro h; cases h
            | true =>
              cases hle : leK (hd ms) row.ow with
              | false => intro h; cases h
              | true =>
                intro h
                refine fin (k1 := [r]) (fun G hG => big G hd' (.inr ⟨r, γ.cv r, rfl, ?_⟩)) h
                rw [hv]
                exact handed_ok hI.rel hr (hG r (by simp)) hle
          · intro h; cases h
theorem outVs_ok (hI : Inv X e0 γ0 w0 S γ a w) : ∀ {ms : List (List Nat)} {k : Nat} {vo : List (List Ct)} {ks : List Nat}, k + ms.length ≤ 1000 → S.lk.outVs k ms = some (vo, ks) →
    ∃ g, keys g = ks ∧ ∀ G, (∀ p ∈ g, lk G p.1 = some p.2) → RelVo X γ0 (endO G γ.O) w k ms vo ks
  | [], k, vo, ks, hk, h => by cases h; exact ⟨[], rfl, fun G _ => .nil⟩
  | wd :: ms, k, vo, ks, hk, h => by
    simp only [List.length_cons] at hk
    simp only [Lk.outVs] at h
    cases h1 : S.lk.v k with
    | none => simp [h1] at h
    | some cs =>
      cases h2 : S.lk.outVs (k + 1) ms with
      | none => simp [h1, h2] at h
      | some q =>
        obtain ⟨yl, kl⟩ := q
        simp only [h1, h2] at h
        cases h3 : S.lk.outV k 0 wd cs with
        | none => rw [h3] at h; cases h
        | some p =>
          obtain ⟨y, k1⟩ := p
          rw [h3] at h; cases h
          obtain ⟨b1, cur, e, b2, b3⟩ := hI.rel.vs k cs h1
          obtain ⟨g1, hg1, i1⟩ := outV_ok hI b3 h3
          obtain ⟨g, hg, ih⟩ := outVs_ok hI (by omega) h2
          have hvb := hI.i2 k (by omega)
          refine ⟨g1 ++ g, by rw [keys_append, hg1, hg], fun G hG => .cons (cur := cur) (e := e) ?_ ?_ (i1 G fun p hp => hG p (List.mem_append_left _ hp)) (ih G fun p hp => hG p (List.mem_append_right _ hp))⟩
          · simp only [endO]; rw [← hvb, b1]; rfl
          · rw [← hvb]; exact b2
theorem outIo_ok (hI : Inv X e0 γ0 w0 S γ a w) : ∀ {acs : List AC} {p : Nat} {ys : List Ct} {ks : List Nat}, S.lk.outIo p acs = some (ys, ks) →
    ∃ g, keys g = ks ∧ ∀ G, (∀ p ∈ g, lk G p.1 = some p.2) → RelIo X γ0 (endO G γ.O) w p acs ys ks
  | [], p, ys, ks, h => by cases h; exact ⟨[], rfl, fun G _ => .nil⟩
  | x :: l, p, ys, ks, h => by
    have skip : (∀ τ xs, x ≠ .io τ xs) → S.lk.outIo (p + 1) l = some (ys, ks) → ∃ g, keys g = ks ∧ ∀ G, (∀ p ∈ g, lk G p.1 = some p.2) → RelIo X γ0 (endO G γ.O) w p (x :: l) ys ks := by
      intro hx h
      obtain ⟨g, hg, ih⟩ := outIo_ok hI h
      exact ⟨g, hg, fun G hG => .skip hx (ih G hG)⟩
    cases x with
    | io τ xs =>
      simp only [Lk.outIo] at h
      cases h1 : S.lk.r (200000 + p * 64) with
      | none => simp [h1] at h
      | some row =>
        cases h2 : S.lk.outIo (p + 1) l with
        | none => simp [h1, h2] at h
        | some q =>
          obtain ⟨yl, kl⟩ := q
          simp only [h1, h2] at h
          revert h; split
          · rename_i h3 h4
            intro h; cases h
            simp only [Bool.and_eq_true] at h3
            have ho := nat_beq h3.1
            have hp := Nat.le_of_ble_eq_true h3.2
            have hτ := tEq_eq h4
            obtain ⟨σ, zs, ow⟩ := row
            simp only at ho hτ; subst ho; subst hτ
            obtain ⟨g, hg, ih⟩ := outIo_ok hI h2
            refine ⟨(200000 + p * 64, 5) :: g, by simp [keys, hg], fun G hG => .io (cs := γ.cv (200000 + p * 64)) ?_ (ih G fun q hq => hG q (List.mem_cons_of_mem _ hq))⟩
            have := handed_ok hI.rel (G := G) h1 (d := 5) (hG (200000 + p * 64, 5) List.mem_cons_self) rfl
            rw [hI.i4 _ (by omega) (by omega)] at this
            exact this
          · intro h; cases h
    | c y => exact skip (by simp) h
    | a ys => exact skip (by simp) h
    | p k => exact skip (by simp) h
    | f g ks => exact skip (by simp) h
    | al k c => exact skip (by simp) h

/-- what is handed back is what is promised -/
theorem out_ok (hI : Inv X e0 γ0 w0 S γ a w) {g : Sig} {acs : List AC} {vin : List (List Ct)} {f : Func} {cr : CR} {u : Value} (he0 : e0 = (entry g acs vin).lk) {v : AV} (hv : RelA S.lk γ v u)
    (hres : resV X S f.results.toList = some v) (h : S.out X g acs f = some cr) : Post X g acs vin γ0 w0 cr u w := by
  simp only [St.out, hres] at h
  cases h1 : S.lk.outR g.rl v with
  | none => simp [h1] at h
  | some p1 =>
    obtain ⟨rc, ka⟩ := p1
    cases h2 : S.lk.outVs 0 g.vl with
    | none => simp [h1, h2] at h
    | some p2 =>
      obtain ⟨vo, kb⟩ := p2
      cases h3 : S.lk.outIo 0 acs with
      | none => simp [h1, h2, h3] at h
      | some p3 =>
        obtain ⟨io, kc⟩ := p3
        simp only [h1, h2, h3] at h
        cases hc : nodupN (ka ++ (kb ++ kc)) && (disjN (S.lk.shR g.rl v) (ka ++ (kb ++ kc)) && Nat.ble g.vl.length 1000) with
        | false => rw [hc] at h; cases h
        | true =>
          rw [hc] at h; cases h
          simp only [Bool.and_eq_true] at hc
          have hnd := nodupN_iff.1 hc.1
          have hsh := disjN_iff.1 hc.2.1
          have hvl := Nat.le_of_ble_eq_true hc.2.2
          obtain ⟨g1, k1, i1⟩ := outR_ok hI hv h1
          obtain ⟨g2, k2, i2⟩ := outVs_ok hI (k := 0) (by omega) h2
          obtain ⟨g3, k3, i3⟩ := outIo_ok hI h3
          have hk : keys (g1 ++ (g2 ++ g3)) = ka ++ (kb ++ kc) := by simp only [keys_append, k1, k2, k3]
          have hG : ∀ p ∈ g1 ++ (g2 ++ g3), lk (g1 ++ (g2 ++ g3)) p.1 = some p.2 := fun p hp => lk_of_mem (by rw [hk]; exact hnd) hp
          refine ⟨endO (g1 ++ (g2 ++ g3)) γ.O, ka, kb, kc, ⟨hI.fr.os, hI.fr.tape, hI.fr.output, hI.fr.size, fun b hb ho => ?_, fun b hb => ?_⟩, hnd, ?_, ?_, ?_⟩
          · obtain ⟨b1, b2⟩ := hI.fr.blk b hb ho
            refine ⟨?_, b2⟩
            simp only [endO]
            rw [b1]
            rcases ho with ho | ho | ho <;> rw [ho] <;> rfl
          · simp only [endO]; rw [hI.fr.top b hb]; rfl
          · rw [← hk, ← he0]
            exact i1 _ (fun p hp => hG p (List.mem_append_left _ hp)) fun r hr => by rw [hk]; exact hsh r hr
          · exact i2 _ fun p hp => hG p (List.mem_append_right _ (List.mem_append_left _ hp))
          · exact i3 _ fun p hp => hG p (List.mem_append_right _ (List.mem_append_right _ hp))
end
end Go.Soft
