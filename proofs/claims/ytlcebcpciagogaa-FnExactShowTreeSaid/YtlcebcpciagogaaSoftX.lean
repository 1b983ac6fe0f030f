/-
  SoftX: regions in the order of their text.
-/
import Derived.Test.YtlcebcpciagogaaSoftW
set_option linter.constructorNameAsVariable false
set_option linter.unusedSimpArgs false
set_option linter.unusedVariables false
namespace Go.Soft
open Go
variable {X : Ctx} {m M : Lk} {γ γ' : Gh} {w w' : World} {ρ : Operand → Value} {S : St} {δ : Dl}

/-- what holds at each place of a function -/
structure Inv (X : Ctx) (e0 : Lk) (γ0 : Gh) (w0 : World) (S : St) (γ : Gh) (a : Act) (w : World) : Prop where
  rel : Rel X S.lk γ w
  top : ∀ g, w.heap.size ≤ g → γ.O g = none
  tmp : RelT X S γ a
  df : a.defers = []
  fr : Fr γ0.O w0 γ.O w
  i3 : ∀ k row, 100000 ≤ k → k < 400000 → S.lk.r k = some row → row.ow = 1 → e0.r k = some row ∧ γ.rv k = γ0.rv k ∧ γ.cv k = γ0.cv k
  i4 : ∀ k, 200000 ≤ k → k < 300000 → γ.rv k = γ0.rv k
  i2 : ∀ k, k < 1000 → γ.vb k = γ0.vb k

theorem put_lk (S : St) (d : Option Nat) (v : AV) : (S.put d v).lk = S.lk := by cases d <;> rfl
theorem put_tm (S : St) (d : Option Nat) (v : AV) (t : Nat) : lk (S.put d v).tm t = if d = some t then some v else lk S.tm t := by
  cases d with
  | none => simp [St.put]
  | some d =>
    show (match Nat.beq d t with | true => some v | false => lk S.tm t) = _
    cases h : Nat.beq d t with
    | true => have := nat_beq h; subst this; simp
    | false =>
      have : d ≠ t := by rintro rfl; rw [Nat.beq_refl] at h; cases h
      simp [this]
theorem act_get (a : Act) (d : Option Nat) (u : Value) (t : Nat) (hd : ∀ x, d = some x → x < a.tmps.size) : (a.put d u).tmps.getD t undef = if d = some t then u else a.tmps.getD t undef := by
  cases d with
  | none => simp [Act.put]
  | some d =>
    have := hd d rfl
    simp only [Act.put, Array.getD_eq_getD_getElem?, Array.getElem?_setIfInBounds]
    by_cases h : d = t
    · subst h; simp [this]
    · simp [h]
theorem act_size (a : Act) (d : Option Nat) (u : Value) : (a.put d u).tmps.size = a.tmps.size := by cases d <;> simp [Act.put]
theorem act_df (a : Act) (d : Option Nat) (u : Value) : (a.put d u).defers = a.defers := by cases d <;> rfl

section
variable {e0 : Lk} {γ0 : Gh} {w0 : World} {a : Act}
theorem Inv.step (hI : Inv X e0 γ0 w0 S γ a w) (hs : Step X S γ w δ γ' w') {d : Option Nat} (hd : ∀ x, d = some x → x < X.nt) {v : AV} {u : Value} (hu : RelA (S.app δ).lk γ' v u) :
    Inv X e0 γ0 w0 ((S.app δ).put d v) γ' (a.put d u) w' := by
  have hlk := put_lk (S.app δ) d v
  have hsz : ∀ x, d = some x → x < a.tmps.size := fun x hx => Nat.lt_of_lt_of_le (hd x hx) hI.tmp.1
  refine ⟨by rw [hlk]; exact hs.rel, hs.fr.top, ⟨by rw [act_size]; exact hI.tmp.1, fun t av ht => ?_⟩, by rw [act_df]; exact hI.df, hI.fr.trans hs.fr, fun k row h1 h2 hr ho => ?_, fun k h1 h2 => ?_, fun k hk => ?_⟩
  · rw [put_tm] at ht
    rw [act_get a d u t hsz, hlk]
    by_cases h : d = some t
    · rw [if_pos h] at ht ⊢; cases ht; exact hu
    · rw [if_neg h] at ht ⊢
      rw [app_t] at ht
      cases hl : lk S.tm t with
      | none => rw [hl] at ht; cases ht
      | some av0 =>
        rw [hl] at ht; simp only [Option.map_some, Option.some.injEq] at ht; subst ht
        exact (hI.tmp.2 t av0 hl).map hs.keep (by rfl)
  · rw [hlk, app_r] at hr
    cases hz : lkZ δ.rs k with
    | some r =>
      rw [hz] at hr; simp only at hr; subst hr
      have := hs.k1 k row hz ho; omega
    | none =>
      rw [hz] at hr
      obtain ⟨a1, a2, a3⟩ := hI.i3 k row h1 h2 hr ho
      obtain ⟨b1, b2⟩ := hs.kp k row hz hr
      exact ⟨a1, b1.trans a2, b2.trans a3⟩
  · exact (hs.io k h1 h2).trans (hI.i4 k h1 h2)
  · exact (hs.vb k hk).trans (hI.i2 k hk)

theorem GInv.step {D : List Nat} (hG : GInv D S a) {d : Option Nat} {D' : List Nat} (hD : ∀ x ∈ D, x ∈ D') (hd : ∀ x, d = some x → x ∉ D ∧ x < a.tmps.size) {p : List (Nat × Bool)} {q : Bool} {v : AV} {u : Value}
    (hp : (∀ x ∈ p, x.1 ∈ D) ∧ (q = true ↔ tv a p)) : GInv D' ((S.app δ).put d (gd p q v)) (a.put d u) := by
  have stable : ∀ p' : List (Nat × Bool), (∀ x ∈ p', x.1 ∈ D) → (tv (a.put d u) p' ↔ tv a p') := by
    intro p' hp'
    have : ∀ x ∈ p', (a.put d u).tmps.getD x.1 undef = a.tmps.getD x.1 undef := by
      intro x hx
      rw [act_get a d u x.1 fun y hy => (hd y hy).2]
      rw [if_neg]
      intro h
      exact (hd x.1 h).1 (hp' x hx)
    exact ⟨fun h x hx => by rw [← this x hx]; exact h x hx, fun h x hx => by rw [this x hx]; exact h x hx⟩
  refine ⟨fun t p' q' v' ht => ?_⟩
  rw [put_tm] at ht
  by_cases h : d = some t
  · rw [if_pos h] at ht
    simp only [Option.some.injEq] at ht
    have : p' = p ∧ q' = q := by
      cases p with
      | nil => exfalso; revert ht; cases v <;> simp [gd, dropG]
      | cons x p => simp only [gd, AV.g.injEq] at ht; exact ⟨ht.1.symm, ht.2.1.symm⟩
    obtain ⟨rfl, rfl⟩ := this
    exact ⟨fun x hx => hD _ (hp.1 x hx), hp.2.trans (stable p' hp.1).symm⟩
  · rw [if_neg h, app_t] at ht
    cases hl : lk S.tm t with
    | none => rw [hl] at ht; cases ht
    | some av =>
      rw [hl] at ht; simp only [Option.map_some, Option.some.injEq] at ht
      cases av with
      | g p0 q0 v0 =>
        simp only [mapV, AV.g.injEq] at ht
        obtain ⟨rfl, rfl, _⟩ := ht
        obtain ⟨g1, g2⟩ := hG.g t _ _ _ hl
        exact ⟨fun x hx => hD _ (g1 x hx), g2.trans (stable _ g1).symm⟩
      | _ => simp [mapV] at ht

theorem lk_dropGs (l : List (Nat × AV)) (t : Nat) : lk (dropGs l) t = (lk l t).map dropG := by
  induction l with
  | nil => rfl
  | cons p l ih =>
    obtain ⟨k, v⟩ := p
    simp only [dropGs, lk, ih]
    cases Nat.beq k t <;> rfl
theorem Inv.drop (hI : Inv X e0 γ0 w0 S γ a w) : Inv X e0 γ0 w0 ⟨dropGs S.tm, S.vs, S.rs⟩ γ a w := by
  refine ⟨hI.rel, hI.top, ⟨hI.tmp.1, fun t av ht => ?_⟩, hI.df, hI.fr, hI.i3, hI.i4, hI.i2⟩
  have ht : lk (dropGs S.tm) t = some av := ht
  rw [lk_dropGs] at ht
  cases hl : lk S.tm t with
  | none => rw [hl] at ht; cases ht
  | some av0 =>
    rw [hl] at ht; simp only [Option.map_some, Option.some.injEq] at ht; subst ht
    exact dropG_rel (hI.tmp.2 t av0 hl)
/-- no value is behind a guard -/
def gfree (S : St) : Prop := ∀ t p q v, lk S.tm t ≠ some (.g p q v)
theorem gfree_drop (S : St) : gfree ⟨dropGs S.tm, S.vs, S.rs⟩ := by
  intro t p q v h
  have h : lk (dropGs S.tm) t = some (.g p q v) := h
  rw [lk_dropGs] at h
  cases hl : lk S.tm t with
  | none => rw [hl] at h; cases h
  | some av => rw [hl] at h; simp only [Option.map_some, Option.some.injEq] at h; cases av <;> simp [dropG] at h
theorem gfree_GInv (h : gfree S) : GInv [] S a := ⟨fun t p q v hl => absurd hl (h t p q v)⟩

/-! ### in the order of the text -/
theorem dsts_mem : ∀ {l : List Oper} {d : Nat}, d ∈ dsts l ↔ ∃ o ∈ l, o.dst = some d
  | [], d => by simp [dsts]
  | o :: l, d => by
    simp only [dsts]
    cases ho : o.dst with
    | none => simp [dsts_mem, ho]
    | some e =>
      simp only [List.mem_cons, dsts_mem, exists_eq_or_imp, ho, Option.some.injEq]
      exact ⟨fun h => h.elim (fun h => .inl h.symm) .inr, fun h => h.elim (fun h => .inl h.symm) .inr⟩
theorem dsts_append (a b : List Oper) : dsts (a ++ b) = dsts a ++ dsts b := by
  induction a with
  | nil => rfl
  | cons o a ih => simp only [List.cons_append, dsts, ih]; cases o.dst <;> rfl
theorem gdLt_get : ∀ {l : List Oper} {n : Nat}, gdLt n l = true → ∀ (i : Nat) (o : Oper), l[i]? = some o → ∀ j w, o.guard = some (j, w) → j < n + i
  | [], n, _, i, o, h, _, _, _ => by simp at h
  | x :: l, n, hg, i, o, h, j, w, ho => by
    simp only [gdLt, Bool.and_eq_true] at hg
    cases i with
    | zero =>
      simp only [List.getElem?_cons_zero, Option.some.injEq] at h; subst h
      rw [ho] at hg
      have : Nat.ble (j + 1) n = true := hg.1
      have := Nat.le_of_ble_eq_true this; omega
    | succ i => have := gdLt_get hg.2 i o (by simpa using h) j w ho; omega

/-- what is known of a region's operations -/
structure RegOk (X : Ctx) (ops : Array Oper) : Prop where
  nd : (dsts ops.toList).Nodup
  lt : ∀ d ∈ dsts ops.toList, d < X.nt
  nt : X.nt ≤ 1500
  gd : ∀ (i : Nat) (o : Oper), ops[i]? = some o → ∀ j w, o.guard = some (j, w) → j < i
theorem regOk {ops : Array Oper} (h : (nodupN (dsts ops.toList) && (allLt X.nt (dsts ops.toList) && (Nat.ble X.nt 1500 && gdLt 0 ops.toList))) = true) : RegOk X ops := by
  simp only [Bool.and_eq_true] at h
  refine ⟨nodupN_iff.1 h.1, allLt_iff.1 h.2.1, Nat.le_of_ble_eq_true h.2.2.1, fun i o ho j w hg => ?_⟩
  have := gdLt_get h.2.2.2 i o (by simpa using ho) j w hg
  omega

variable {R : Type} {E : Env R}

theorem seq_ok (r0 : R) (hX : CtxOk X) (hE : EnvOk X E) {ops : Array Oper} (hr : RegOk X ops) {Q : Exit → Act → World → Prop} {s' : St} {fp' : List Fp} (hQ : ∀ γ' a' w', Inv X e0 γ0 w0 s' γ' a' w' → Q .normal a' w') :
    ∀ (l pre : List Oper) (S : St) (γ : Gh) (a : Act) (w : World) (fp : List Fp), ops.toList = pre ++ l → Inv X e0 γ0 w0 S γ a w → GInv (dsts pre) S a →
      (∀ K : St × List Fp → Option R, (execOps X E ops false l S fp fun s f => K (s, f)) = K (s', fp')) → wpOps X.P ops Q (List.range' pre.length l.length) a w
  | [], pre, S, γ, a, w, fp, _, hI, _, hK => by
    have := ev_inj r0 hK
    simp only [Prod.mk.injEq] at this
    exact hQ γ a w (this.1 ▸ hI)
  | o :: l, pre, S, γ, a, w, fp, hl, hI, hG, hK => by
    have hget : ops[pre.length]? = some o := by
      rw [← Array.getElem?_toList, hl]; simp
    simp only [List.length_cons, List.range'_succ, wpOps, hget]
    obtain ⟨oc, hoc⟩ := runOp_uni (X := X) hE.uni ops S o
    cases oc with
    | none =>
      exact False.elim <| ev_none r0 (α := St × List Fp) (y := (s', fp')) fun K => by
        have h1 := hK K
        have h2 := hoc fun x => execOps X E ops false l ((S.app x.2.2.2).put o.dst (gd x.1 x.2.1 x.2.2.1)) fp fun s f => K (s, f)
        exact h2.symm.trans h1
    | some x =>
      obtain ⟨p, q, v, δ⟩ := x
      have hK2 : ∀ K : St × List Fp → Option R, (execOps X E ops false l ((S.app δ).put o.dst (gd p q v)) fp fun s f => K (s, f)) = K (s', fp') := by
        intro K
        have h1 := hK K
        have h2 := hoc fun x => execOps X E ops false l ((S.app x.2.2.2).put o.dst (gd x.1 x.2.1 x.2.2.1)) fp fun s f => K (s, f)
        exact h2.symm.trans h1
      have hdl : ∀ d, o.dst = some d → d < X.nt := fun d hd => hr.lt d (by rw [hl, dsts_append]; simp [dsts, hd])
      have hdn : ∀ d, o.dst = some d → d ∉ dsts pre := by
        intro d hd hm
        have := hr.nd
        rw [hl, dsts_append] at this
        exact (List.nodup_append.1 this).2.2 d hm d (by simp [dsts, hd]) rfl
      have hpre : ∀ x ∈ dsts pre, x ∈ dsts (pre ++ [o]) := fun x hx => by rw [dsts_append]; exact List.mem_append_left _ hx
      have hgd : ∀ j w, o.guard = some (j, w) → ∀ oj t, ops[j]? = some oj → oj.dst = some t → t ∈ dsts pre := by
        intro j w hg oj t hj ht
        have hlt := hr.gd pre.length o hget j w hg
        have hj2 : pre[j]? = some oj := by
          rw [← Array.getElem?_toList, hl, List.getElem?_append_left hlt] at hj; exact hj
        exact dsts_mem.2 ⟨oj, List.mem_of_getElem? hj2, ht⟩
      have hop := op_ok r0 hX hE hI.rel hI.top hI.tmp hG (Le.refl S.lk) (fun _ _ h => h) hr.nt hdl hgd (v := v) (δ := δ) (p := p) (q := q) (s' := S) (fun K => hoc K)
        (next := wpOps X.P ops Q (List.range' (pre.length + 1) l.length)) (Q := Q)
      have hgp : (∀ x ∈ p, x.1 ∈ dsts pre) ∧ (q = true ↔ tv a p) := (op_ok r0 hX hE hI.rel hI.top hI.tmp hG (Le.refl S.lk) (fun _ _ h => h) hr.nt hdl hgd (v := v) (δ := δ) (p := p) (q := q) (s' := S) (fun K => hoc K)
        (next := fun _ _ => True) (Q := Q) (fun _ _ _ _ _ => trivial)).1
      have hfin := (hop fun γ' w' u hst hu => by
        have := seq_ok r0 hX hE hr hQ l (pre ++ [o]) ((S.app δ).put o.dst (gd p q v)) γ' (a.put o.dst u) w' fp (by rw [hl]; simp) (hI.step hst hdl hu)
          (hG.step hpre (fun x hx => ⟨hdn x hx, Nat.lt_of_lt_of_le (hdl x hx) hI.tmp.1⟩) hgp) hK2
        simpa using this).2
      cases hw : Region.wanted o (yielded ops a.tmps) with
      | true => rw [hw] at hfin; simp only [if_true] at hfin ⊢; exact .inl hfin
      | false => rw [hw] at hfin; simpa using hfin

end
end Go.Soft
