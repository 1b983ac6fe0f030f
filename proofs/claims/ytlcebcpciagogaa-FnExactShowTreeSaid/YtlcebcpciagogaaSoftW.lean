/-
  SoftW: one operation of a region.
-/
import Derived.Test.YtlcebcpciagogaaSoftV
set_option linter.constructorNameAsVariable false
set_option linter.unusedSimpArgs false
set_option linter.unusedVariables false
namespace Go.Soft
open Go
variable {X : Ctx} {m M : Lk} {γ γ' : Gh} {w w' : World} {ρ : Operand → Value} {S : St} {δ : Dl}

/-- these guards hold -/
def tv (a : Act) (p : List (Nat × Bool)) : Prop := ∀ x ∈ p, a.tmps.getD x.1 undef = .bool x.2
structure GInv (D : List Nat) (S : St) (a : Act) : Prop where
  g : ∀ t p q v, lk S.tm t = some (.g p q v) → (∀ x ∈ p, x.1 ∈ D) ∧ (q = true ↔ tv a p)

theorem isPre_tv {a : Act} : ∀ {p P : List (Nat × Bool)}, isPre p P = true → tv a P → tv a p
  | [], P, _, _ => fun x hx => by simp at hx
  | (t, x) :: p, [], h, _ => by simp [isPre] at h
  | (t, x) :: p, (u, y) :: P, h, hP => by
    simp only [isPre, Bool.and_eq_true] at h
    have ht := nat_beq h.1
    subst ht
    have hxy : x = y := by cases x <;> cases y <;> simp_all
    subst hxy
    intro z hz
    rcases List.mem_cons.1 hz with rfl | hz
    · exact hP _ List.mem_cons_self
    · exact isPre_tv h.2.2 (fun u hu => hP u (List.mem_cons_of_mem _ hu)) z hz

theorem id_step (hR : Rel X S.lk γ w) (htop : ∀ g, w.heap.size ≤ g → γ.O g = none) : Step X S γ w Dl.z γ w := by
  have e : S.app Dl.z = S := rfl
  refine ⟨by rw [e]; exact hR, fun x v hx => by rw [e, map_quiet rfl]; exact hx, ⟨rfl, rfl, rfl, Nat.le_refl _, fun _ _ _ => ⟨rfl, rfl⟩, htop⟩, fun _ _ _ _ => ⟨rfl, rfl⟩, fun k row h => (by cases h), fun _ _ _ => rfl, fun _ _ => rfl, fun k cs hk _ => ⟨rfl, (hR.vs k cs hk).1, rfl⟩⟩

theorem dropG_rel {v : AV} {u : Value} (h : RelA M γ v u) : RelA M γ (dropG v) u := by
  cases v <;> first | exact h | exact trivial
theorem gd_rel {p : List (Nat × Bool)} {q : Bool} {v : AV} {u : Value} (hq : q = true) (h : RelA M γ v u) : RelA M γ (gd p q v) u := by
  cases p with
  | nil => exact dropG_rel h
  | cons x p => exact ⟨fun _ => h, fun e => by rw [hq] at e; cases e⟩
theorem gd_skip {p : List (Nat × Bool)} {v : AV} (hp : p ≠ []) : RelA M γ (gd p false v) undef := by
  cases p with
  | nil => exact absurd rfl hp
  | cons x p => exact ⟨fun e => (by cases e), fun _ => rfl⟩

theorem ev_inj {R α : Type} (r0 : R) {x y : α} (h : ∀ K : α → Option R, K x = K y) : x = y := by
  classical
  have := h fun z => if z = x then some r0 else none
  simp only [if_true] at this
  by_cases hy : y = x
  · exact hy.symm
  · simp [hy] at this
theorem ev_none {R α : Type} (r0 : R) {y : α} (h : ∀ K : α → Option R, none = K y) : False := by
  have := h fun _ => some r0
  simp at this

section
variable {R : Type} {E : Env R} {ops : Array Oper} {s' : St} {a : Act} {D : List Nat}

theorem get_some {t : Nat} {v : AV} (h : s'.get t = v) (hv : v ≠ .c .un) : lk s'.tm t = some v := by
  simp only [St.get] at h
  cases hl : lk s'.tm t with
  | some u => simp only [hl] at h; rw [h]
  | none => simp only [hl] at h; exact absurd h.symm hv

/-- under which guards: whether they hold -/
theorem guard_ok (hT : RelT X S γ a) (hG : GInv D S a) (ht : ∀ t av, lk s'.tm t = some av → lk S.tm t = some av) {o : Oper} (hgd : ∀ j w, o.guard = some (j, w) → ∀ oj t, ops[j]? = some oj → oj.dst = some t → t ∈ D)
    {p : List (Nat × Bool)} {q : Bool} (h : guardP ops s' o.guard = some (p, q)) :
    (∀ x ∈ p, x.1 ∈ D) ∧ (q = true ↔ tv a p) ∧ Region.wanted o (yielded ops a.tmps) = q ∧ (p = [] → q = true) := by
  simp only [Region.wanted]
  cases hg : o.guard with
  | none =>
    rw [hg] at h
    simp only [guardP, Option.some.injEq, Prod.mk.injEq] at h
    obtain ⟨rfl, rfl⟩ := h
    exact ⟨by simp, by simp [tv], rfl, fun _ => rfl⟩
  | some jw =>
    obtain ⟨j, want⟩ := jw
    rw [hg] at h
    simp only [guardP] at h
    cases hj : ops[j]? with
    | none => simp [hj] at h
    | some oj =>
      simp only [hj] at h
      cases hd : oj.dst with
      | none => simp [hd] at h
      | some t =>
        simp only [hd] at h
        have hD := hgd j want hg oj t hj hd
        have hy : ∀ x, a.tmps.getD t undef = .bool x → yielded ops a.tmps j = some x := by
          intro x hx
          have : a.tmps[t]? = some (.bool x) := by
            rw [Array.getD_eq_getD_getElem?] at hx
            cases hh : a.tmps[t]? with
            | none => rw [hh] at hx; cases hx
            | some v => rw [hh] at hx; simp only [Option.getD_some] at hx; rw [hx]
          simp only [yielded, hj, Option.bind_some, hd, this]
        have hyn : a.tmps.getD t undef = undef → yielded ops a.tmps j = none := by
          intro hx
          simp only [yielded, hj, Option.bind_some, hd]
          rw [Array.getD_eq_getD_getElem?] at hx
          cases hh : a.tmps[t]? with
          | none => rfl
          | some v =>
            rw [hh] at hx; simp only [Option.getD_some] at hx; subst hx; rfl
        revert h; split
        · rename_i x hx
          intro h
          simp only [Option.some.injEq, Prod.mk.injEq] at h
          obtain ⟨rfl, rfl⟩ := h
          have hv := hT.2 t _ (ht t _ (get_some hx (by simp)))
          have hv : a.tmps.getD t undef = .bool x := hv
          refine ⟨by simpa using hD, ?_, ?_, by simp⟩
          · simp only [tv, List.mem_singleton, forall_eq, hv, Value.bool.injEq]
            cases want <;> cases x <;> simp
          · show (yielded ops a.tmps j == some want) = _
            rw [hy x hv]; cases want <;> cases x <;> rfl
        · rename_i p' q' x hx
          intro h
          simp only [Option.some.injEq, Prod.mk.injEq] at h
          obtain ⟨rfl, rfl⟩ := h
          have hl := ht t _ (get_some hx (by simp))
          obtain ⟨g1, g2⟩ := hG.g t _ _ _ hl
          have hv := hT.2 t _ hl
          refine ⟨fun y hy => ?_, ?_, ?_, by simp⟩
          · rcases List.mem_append.1 hy with hy | hy
            · exact g1 y hy
            · simp at hy; rw [hy]; exact hD
          · simp only [tv, List.mem_append, List.mem_singleton]
            cases hq : q' with
            | true =>
              have hv : a.tmps.getD t undef = .bool x := hv.1 hq
              have htv := g2.1 hq
              constructor
              · intro h y hy
                rcases hy with hy | hy
                · exact htv y hy
                · rw [hy, hv]; cases want <;> cases x <;> simp_all
              · intro h
                have := h (t, want) (.inr rfl)
                rw [hv] at this
                simp only [Value.bool.injEq] at this
                subst this; cases x <;> rfl
            | false =>
              have : ¬ tv a p' := fun h => by have := g2.2 h; rw [hq] at this; cases this
              simp only [Bool.false_and, Bool.false_eq_true, false_iff]
              exact fun h => this fun y hy => h y (.inl hy)
          · cases hq : q' with
            | true =>
              have hv : a.tmps.getD t undef = .bool x := hv.1 hq
              show (yielded ops a.tmps j == some want) = _
              rw [hy x hv]; cases want <;> cases x <;> rfl
            | false =>
              have hv : a.tmps.getD t undef = undef := hv.2 hq
              show (yielded ops a.tmps j == some want) = _
              rw [hyn hv]; cases want <;> cases x <;> rfl
        · intro h; cases h

theorem opnd_g (hT : RelT X S γ a) (hG : GInv D S a) (ht : ∀ t av, lk s'.tm t = some av → lk S.tm t = some av) {p : List (Nat × Bool)} (hp : tv a p) (ty : TypeId) (x : Operand) : RelA S.lk γ (X.opnd s' p ty x) (a.eval x) :=
  opnd_ok (M := S.lk) (fun t av h => hT.2 t av (ht t av h)) p (fun t p' q v h hi => (hG.g t p' q v (ht t _ h)).2.2 (isPre_tv hi hp)) ty x

theorem callee_run {P : Program} {f : FuncId} (h : Enters P f) (args : Array Value) (w : World) : (callFunc f args).run P w = .ok (.enter f args) w := by
  obtain ⟨fn, h1, h2, h3⟩ := h
  have h2' : ¬ fn.name = "runtime.NumGoroutine" := by simpa using h2
  have h3' : ¬ fn.body = none := by cases hb : fn.body <;> simp_all
  simp [callFunc, h1, h2', h3']

theorem grdOk_inv {p : List (Nat × Bool)} {g : Sig} {ar : AR} {v : AV} (hp : p ≠ []) (h : grdOk p g ar v = true) : le1s g.vl = true ∧ drOk g.dr = true ∧ ar.gone = [] ∧ ar.io = [] ∧ ar.fz = [] := by
  cases p with
  | nil => exact absurd rfl hp
  | cons x p =>
    simp only [grdOk, Bool.and_eq_true] at h
    obtain ⟨a1, a2, a3⟩ := h
    refine ⟨a1, a2, ?_⟩
    revert a3; split
    · simp
    · intro _; exact ⟨by assumption, by assumption, by assumption⟩
    · simp
theorem op_ok (r0 : R) (hX : CtxOk X) (hE : EnvOk X E) (hR : Rel X S.lk γ w) (htop : ∀ g, w.heap.size ≤ g → γ.O g = none) (hT : RelT X S γ a) (hG : GInv D S a) (hm : Le s'.lk S.lk)
    (ht : ∀ t av, lk s'.tm t = some av → lk S.tm t = some av) {o : Oper} (hnt : X.nt ≤ 1500) (hdst : ∀ d, o.dst = some d → d < X.nt) (hgd : ∀ j w, o.guard = some (j, w) → ∀ oj t, ops[j]? = some oj → oj.dst = some t → t ∈ D)
    {p : List (Nat × Bool)} {q : Bool} {v : AV} (hop : ∀ K : List (Nat × Bool) × Bool × AV × Dl → Option R, (runOp X E ops s' o fun p q v δ => K (p, q, v, δ)) = K (p, q, v, δ)) {next : Act → World → Prop} {Q : Exit → Act → World → Prop}
    (hn : ∀ γ' w' u, Step X S γ w δ γ' w' → RelA (S.app δ).lk γ' (gd p q v) u → next (a.put o.dst u) w') :
    ((∀ x ∈ p, x.1 ∈ D) ∧ (q = true ↔ tv a p)) ∧ (if Region.wanted o (yielded ops a.tmps) then o.wp X.P a w next Q else next (a.put o.dst undef) w) := by
  have hd1500 : (match o.dst with | some d => d | none => 0) < 1500 := by
    cases hd : o.dst with
    | none => simp
    | some d => exact Nat.lt_of_lt_of_le (hdst d hd) hnt
  simp only [runOp] at hop
  cases hg : guardP ops s' o.guard with
  | none => simp only [hg] at hop; exact (ev_none r0 hop).elim
  | some pq =>
    obtain ⟨p0, q0⟩ := pq
    simp only [hg] at hop
    obtain ⟨g1, g2, g3, g4⟩ := guard_ok hT hG ht hgd hg
    -- the end of it
    have fin : ∀ {v0 : AV} {δ0 : Dl}, (∀ K : List (Nat × Bool) × Bool × AV × Dl → Option R, K (p0, q0, v0, δ0) = K (p, q, v, δ)) → p0 = p ∧ q0 = q ∧ v0 = v ∧ δ0 = δ := by
      intro v0 δ0 h
      have := ev_inj r0 h
      simp only [Prod.mk.injEq] at this
      exact this
    -- a value, and no change
    have plain : ∀ {v0 : AV}, (q0 = true → Good (stepO X (fun e => X.opnd s' (p0 ++ e)) s'.lk (match o.dst with | some d => d | none => 0) o.type o.op) v0) →
        (∀ K : List (Nat × Bool) × Bool × AV × Dl → Option R, K (p0, q0, v0, Dl.z) = K (p, q, v, δ)) →
        ((∀ x ∈ p, x.1 ∈ D) ∧ (q = true ↔ tv a p)) ∧ (if Region.wanted o (yielded ops a.tmps) then o.wp X.P a w next Q else next (a.put o.dst undef) w) := fun hgood hK => by
      obtain ⟨rfl, rfl, rfl, rfl⟩ := fin hK
      refine ⟨⟨g1, g2⟩, ?_⟩
      have e : S.app Dl.z = S := rfl
      rw [g3]
      cases hq : q0 with
      | true =>
        have htv := g2.1 hq
        obtain ⟨u, hu, hr⟩ := pure_ok hX hm hR (evp := fun e => X.opnd s' (p0 ++ e)) (fun ty x => by rw [List.append_nil]; exact opnd_g hT hG ht htv ty x)
          (fun ty t x xa xb hx => by
            have hv := opnd_g hT hG ht htv ty (.tmp t)
            simp only [List.append_nil] at hx
            rw [hx] at hv
            have hv : a.eval (.tmp t) = .bool x := hv
            have htv2 : tv a (p0 ++ [(t, x)]) := by
              intro y hy
              rcases List.mem_append.1 hy with hy | hy
              · exact htv y hy
              · simp at hy; rw [hy]; exact hv
            exact ⟨fun hx => by rw [hx] at htv2; exact opnd_g hT hG ht htv2 ty xa, fun hx => by rw [hx] at htv2; exact opnd_g hT hG ht htv2 ty xb⟩) (hgood hq)
        simp only [if_true, Oper.wp, hu, Oper.upon]
        exact hn γ w u (id_step hR htop) (by rw [e]; exact gd_rel (by first | rfl | exact hq) hr)
      | false =>
        have hp : p0 ≠ [] := fun h => by have := g4 h; rw [hq] at this; cases this
        simp only [Bool.false_eq_true, if_false]
        exact hn γ w undef (id_step hR htop) (by rw [hq]; exact gd_skip hp)
    have chg : ∀ {v0 : AV} {δ0 : Dl}, p0 = [] → (stepO X (fun e => X.opnd s' (p0 ++ e)) s'.lk (match o.dst with | some d => d | none => 0) o.type o.op = .w0 v0 δ0 ∨ stepO X (fun e => X.opnd s' (p0 ++ e)) s'.lk (match o.dst with | some d => d | none => 0) o.type o.op = .w true v0 δ0) →
        (∀ K : List (Nat × Bool) × Bool × AV × Dl → Option R, K (p0, q0, v0, δ0) = K (p, q, v, δ)) →
        ((∀ x ∈ p, x.1 ∈ D) ∧ (q = true ↔ tv a p)) ∧ (if Region.wanted o (yielded ops a.tmps) then o.wp X.P a w next Q else next (a.put o.dst undef) w) := fun hp0 hst hK => by
      obtain ⟨rfl, rfl, rfl, rfl⟩ := fin hK
      refine ⟨⟨g1, g2⟩, ?_⟩
      have hq := g4 hp0
      rw [g3, hq]
      have htv := g2.1 hq
      obtain ⟨r, u, w', γ', h1, h2, h3, h4⟩ := chg_ok hX hR htop hm (ρ := a.eval) (fun ty x => by rw [List.append_nil]; exact opnd_g hT hG ht htv ty x) hd1500 hst
      simp only [if_true, Oper.wp, h1]
      rcases h2 with rfl | ⟨rfl, rfl⟩
      · simp only [Oper.upon]; exact hn γ' w' u h4 (gd_rel hq h3)
      · simp only [Oper.upon]; exact hn γ' w' undef h4 (gd_rel hq h3)
    revert hop; split
    · -- a call
      rename_i f args argTypes hcall
      split
      · rename_i fid caps hfe
        split
        · intro hop; exact (ev_none r0 hop).elim
        · rename_i sig hsig
          split
          · intro hop; exact (ev_none r0 hop).elim
          · rename_i ar hargs
            split
            · rename_i vin ow bb hvins hhand hlens
              intro hop
              have hfe : X.opnd s' (p0 ++ []) 0 f = .c (.fn fid caps) := hfe
              let avs := fmap (X.opnd s' (p0 ++ []) 0) args.toList ++ fmap (fun v => AV.c (.pv v 0)) caps
              let c : CallI := ⟨s'.lk, sig, avs, ar, vin, ow, bb⟩
              simp only [Bool.and_eq_true] at hlens
              have hok : c.Ok := ⟨hargs, hvins, hhand, Nat.le_of_ble_eq_true hlens.1, Nat.le_of_ble_eq_true hlens.2⟩
              obtain ⟨hfn, hent⟩ := hE.fn fid sig hsig
              -- what is done with an answer
              have after : ∀ cr : CR, (∀ K : List (Nat × Bool) × Bool × AV × Dl → Option R, (match s'.lk.after sig avs ar cr ow (match o.dst with | some d => d | none => 0) with
                  | none => none
                  | some (v, δ) => match grdOk p0 sig ar v with
                    | true => K (p0, q0, v, δ)
                    | false => none) = K (p, q, v, δ)) →
                  p0 = p ∧ q0 = q ∧ s'.lk.after sig avs ar cr ow (match o.dst with | some d => d | none => 0) = some (v, δ) ∧ grdOk p sig ar v = true := by
                intro cr hK
                cases ha : s'.lk.after sig avs ar cr ow (match o.dst with | some d => d | none => 0) with
                | none => simp only [ha] at hK; exact (ev_none r0 hK).elim
                | some vd =>
                  obtain ⟨v0, δ0⟩ := vd
                  simp only [ha] at hK
                  cases hgr : grdOk p0 sig ar v0 with
                  | false => simp only [hgr] at hK; exact (ev_none r0 hK).elim
                  | true =>
                    simp only [hgr] at hK
                    obtain ⟨rfl, rfl, rfl, rfl⟩ := fin hK
                    exact ⟨rfl, rfl, rfl, hgr⟩
              -- it comes
              have comes : q0 = true → (∀ K : List (Nat × Bool) × Bool × AV × Dl → Option R, (E.fn fid ar.acs vin fun cr => match s'.lk.after sig avs ar cr ow (match o.dst with | some d => d | none => 0) with
                  | none => none
                  | some (v, δ) => match grdOk p0 sig ar v with
                    | true => K (p0, q0, v, δ)
                    | false => none) = K (p, q, v, δ)) →
                  ((∀ x ∈ p, x.1 ∈ D) ∧ (q = true ↔ tv a p)) ∧ (if Region.wanted o (yielded ops a.tmps) then o.wp X.P a w next Q else next (a.put o.dst undef) w) := by
                intro hq hK
                obtain ⟨oc, hoc⟩ := hE.uni fid ar.acs vin
                cases oc with
                | none => exact (ev_none r0 fun K => by have := hK K; rw [hoc] at this; exact this).elim
                | some cr =>
                  have hK2 := after cr fun K => by have := hK K; rw [hoc] at this; exact this
                  obtain ⟨rfl, rfl, ha, _⟩ := hK2
                  refine ⟨⟨g1, g2⟩, ?_⟩
                  rw [g3, hq]
                  have htv := g2.1 hq
                  have hfv := opnd_g hT hG ht htv 0 f
                  rw [List.append_nil] at hfe
                  rw [hfe] at hfv
                  obtain ⟨hcv, hfv⟩ := hfv
                  let vals := args.toList.map a.eval ++ caps.map fun k => Value.pointer (some ⟨γ.vb k, 0, none⟩)
                  have hrun : (execOp a.eval o).run X.P w = .ok (.enter fid vals.toArray) w := by
                    have he : execOp a.eval o = (do let d ← resolve a.eval ⟨.value f, args, argTypes⟩ o.type; invoke d.target d.args) := by
                      simp only [execOp, hcall]
                    rw [he]
                    simp only [resolve, Sem.run_bind, Deferred.ofValue, hfv, Sem.run_pure, Result.andThen_ok, invoke]
                    rw [callee_run hent]
                    congr 2
                    apply Array.toList_inj.1
                    simp [vals]
                  have hargsR : RelAs S.lk γ avs vals := by
                    have h1 : ∀ l : List Operand, RelAs S.lk γ (fmap (X.opnd s' (p0 ++ []) 0) l) (l.map a.eval) := by
                      intro l
                      induction l with
                      | nil => exact .nil
                      | cons x l ih => exact .cons (by rw [List.append_nil]; exact opnd_g hT hG ht htv 0 x) ih
                    have h2 : ∀ l : List Nat, (∀ k ∈ l, ∃ cs, S.lk.v k = some cs) → RelAs S.lk γ (fmap (fun v => AV.c (.pv v 0)) l) (l.map fun k => Value.pointer (some ⟨γ.vb k, 0, none⟩)) := by
                      intro l
                      induction l with
                      | nil => intro _; exact .nil
                      | cons x l ih => intro h; exact .cons ⟨h x List.mem_cons_self, rfl⟩ (ih fun k hk => h k (List.mem_cons_of_mem _ hk))
                    have happ : ∀ {l l' : List AV} {u u' : List Value}, RelAs S.lk γ l u → RelAs S.lk γ l' u' → RelAs S.lk γ (l ++ l') (u ++ u') := by
                      intro l l' u u' h h'
                      induction h with
                      | nil => exact h'
                      | cons hx _ ih => exact .cons hx ih
                    exact happ (h1 _) (h2 _ hcv)
                  have hEnt : c.Ent X S γ w vals := ⟨hok, hm, hR, htop, hargsR⟩
                  simp only [if_true, Oper.wp, hrun, Oper.upon]
                  refine (hfn.ok ar.acs vin cr (fun k => by rw [hoc]; rfl) _ w vals hEnt.pre).mono ?_
                  rintro e w1 ⟨u, rfl, hpost⟩
                  obtain ⟨γ', hst, hr⟩ := call_ok hEnt hpost hd1500 ha
                  exact hn γ' w1 u hst (gd_rel hq hr)
              by_cases hpe : p0 = []
              · have hgc : ∀ (f : (CR → Option R) → Option R) (d : CR) (k : CR → Option R), gcall p0 q0 f d k = f k := by intro f d k; rw [hpe]; rfl
                exact comes (g4 hpe) fun K => by have := hop K; rw [hgc] at this; exact this
              · have hgc : ∀ (f : (CR → Option R) → Option R) (d : CR) (k : CR → Option R), gcall p0 q0 f d k = (bif q0 then f k else k d) := by
                  intro f d k; cases hp0 : p0 with
                  | nil => exact absurd hp0 hpe
                  | cons x p1 => rfl
                rcases Bool.eq_false_or_eq_true q0 with hq | hq
                · exact comes hq fun K => by have := hop K; rw [hgc, hq] at this; rw [hq]; exact this
                · have hop2 := after ⟨sig.dr, vin, s'.lk.ioCs ar.io⟩ fun K => by have := hop K; rw [hgc, hq] at this; rw [hq]; exact this
                  obtain ⟨rfl, rfl, ha, hgr⟩ := hop2
                  rw [hq] at g3
                  refine ⟨⟨g1, g2⟩, ?_⟩
                  rw [g3]
                  simp only [Bool.false_eq_true, if_false]
                  have hgr2 := grdOk_inv hpe hgr
                  obtain ⟨b1, b2, b3, b4, b5⟩ := hgr2
                  obtain ⟨γ', hst⟩ := skip_ok hR htop hm hd1500 hvins hhand ha b1 b2 b3 b4 b5
                  exact hn γ' w undef hst (by rw [hq]; exact gd_skip hpe)
            · intro hop; exact (ev_none r0 hop).elim
      · intro hop; exact (ev_none r0 hop).elim
    · -- no call
      split
      · intro hop; exact (ev_none r0 hop).elim
      · rename_i v0 hst
        intro hop
        exact plain (fun _ => .inl hst) hop
      · rename_i c v0 hst
        intro hop
        cases hc : ck p0 q0 c with
        | false => exact (ev_none r0 fun K => by have := hop K; rw [hc] at this; exact this).elim
        | true =>
          refine plain (fun hq => .inr ?_) (fun K => by have := hop K; rw [hc] at this; exact this)
          have : c = true := by
            simp only [ck] at hc
            revert hc; split
            · exact id
            · rw [hq]; simp
          rw [← this]; exact hst
      · rename_i v0 δ0 hst
        cases hp0 : p0 with
        | nil => intro hop; exact chg hp0 (.inl (by rw [hp0]; rw [hp0] at hst; exact hst)) (fun K => by rw [hp0]; exact hop K)
        | cons x p1 => intro hop; exact (ev_none r0 hop).elim
      · rename_i c v0 δ0 hst
        cases hp0 : p0 with
        | nil =>
          intro hop
          cases hc : c with
          | false => exact (ev_none r0 fun K => by have := hop K; rw [hc] at this; exact this).elim
          | true => exact chg hp0 (.inr (by rw [hp0]; rw [hp0, hc] at hst; exact hst)) (fun K => by rw [hp0]; have := hop K; rw [hc] at this; exact this)
        | cons x p1 => intro hop; exact (ev_none r0 hop).elim

end
end Go.Soft
