/-
  SoftN: one operation that changes memory.
-/
import Derived.Test.YtlcebcpciagogaaSoftM
set_option linter.constructorNameAsVariable false
set_option linter.unusedSimpArgs false
set_option linter.unusedVariables false
namespace Go.Soft
open Go
variable {X : Ctx} {m M : Lk} {γ γ' : Gh} {w w' : World} {ρ : Operand → Value} {S : St} {δ : Dl}

/-- what an operation that changes memory comes to -/
def Chgs (X : Ctx) (S : St) (γ : Gh) (w : World) (ρ : Operand → Value) (o : Oper) (v : AV) (δ : Dl) : Prop :=
  ∃ r u w' γ', (Go.execOp ρ o).run X.P w = .ok r w' ∧ (r = .value u ∨ (r = .skip ∧ u = undef)) ∧ RelA (S.app δ).lk γ' v u ∧ Step X S γ w δ γ' w'

theorem Chgs.of {o : Oper} {v : AV} {s : Sem Value} (he : Go.execOp ρ o = (do let x ← s; pure (.value x)))
    (h : ∃ u w' γ', s.run X.P w = .ok u w' ∧ Step X S γ w δ γ' w' ∧ RelA (S.app δ).lk γ' v u) : Chgs X S γ w ρ o v δ := by
  obtain ⟨u, w', γ', h1, h2, h3⟩ := h
  exact ⟨.value u, u, w', γ', by rw [he, Sem.run_bind, h1]; rfl, .inl rfl, h3, h2⟩
theorem Chgs.ofU {o : Oper} {s : Sem Unit} (he : Go.execOp ρ o = (do s; pure .skip))
    (h : ∃ w' γ', s.run X.P w = .ok () w' ∧ Step X S γ w δ γ' w') : Chgs X S γ w ρ o u8 δ := by
  obtain ⟨w', γ', h1, h2⟩ := h
  exact ⟨.skip, undef, w', γ', by rw [he, Sem.run_bind, h1]; rfl, .inr ⟨rfl, rfl⟩, ⟨[], rfl, .nil⟩, h2⟩

theorem run_newVar {P : Program} (t : TypeId) (v : Value) (w : World) : (newVar t v).run P w = .ok ⟨w.heap.size, 0, none⟩ (w.alloc (.cells v.cells t)) := by
  rfl
theorem run_zero {P : Program} {t : TypeId} {i : TypeInfo} {z : Value} (hi : P.info? t = some i) (hz : i.zero = some z) (w : World) : (zeroValue t).run P w = .ok z w := by
  simp [zeroValue, typeInfo, hi, hz]

theorem alloc_step (hR : Rel X S.lk γ w) (htop : ∀ g, w.heap.size ≤ g → γ.O g = none) {t : TypeId} {cs : List Cv} (h : X.zero t = some cs) (key : Nat) (hkey : 1000 ≤ key) :
    ∃ u w' γ', (Instr.alloc t true (.tuple #[])).run X.P w = .ok u w' ∧ Step X S γ w (nvD key cs) γ' w' ∧ RelA (S.app (nvD key cs)).lk γ' (.c (.pv key 0)) u := by
  obtain ⟨i, z, hi, hz, hr⟩ := zero_ok (M := (S.app (nvD key cs)).lk) (γ := nvG γ w key) h
  obtain ⟨h1, h2⟩ := nv_step key cs hkey hR htop z.cells.toList t hr
  refine ⟨_, _, _, ?_, h1, RelA.of h2⟩
  simp only [Instr.alloc, Sem.run_bind, run_zero hi hz, Result.andThen_ok, run_newVar, Sem.run_pure]

theorem box_step (hR : Rel X S.lk γ w) (htop : ∀ g, w.heap.size ≤ g → γ.O g = none) {t : TypeId} {cs : List Cv} {v : Value} (hv : RelL S.lk γ cs v.cells.toList) (key : Nat) (hkey : 1000 ≤ key) :
    let cs' := fmap (Dl.map { Dl.z with kv := [key] }) cs
    ∃ u w' γ', (Instr.box t v).run X.P w = .ok u w' ∧ Step X S γ w (nvD key cs') γ' w' ∧ RelA (S.app (nvD key cs')).lk γ' (.c (.pv key 0)) u := by
  intro cs'
  have hmap : (nvD key cs').map = (Dl.map { Dl.z with kv := [key] }) := by
    funext x; cases x <;> rfl
  have hr := hv.map (nv_keep (key := key) (cs := cs') hR)
  rw [hmap, ← fmap_eq] at hr
  obtain ⟨h1, h2⟩ := nv_step key cs' hkey hR htop v.cells.toList t hr
  refine ⟨_, _, _, ?_, h1, RelA.of h2⟩
  simp only [Instr.box, Sem.run_bind, run_newVar, Result.andThen_ok, Sem.run_pure]

theorem store_step (hR : Rel X S.lk γ w) (htop : ∀ g, w.heap.size ≤ g → γ.O g = none) (hm : Le m S.lk) {x : Cv} {vl : List Cv} {av v : Value} {t : TypeId} (hx : RelC S.lk γ x av)
    (hv : RelL S.lk γ vl v.cells.toList) (hs : vl.length = szOf X.P t) (hp : 0 < vl.length) {u : AV} (h : m.store x vl = .w0 u δ ∨ m.store x vl = .w true u δ) :
    u = u8 ∧ ∃ w' γ', (Instr.storeAt t av v).run X.P w = .ok () w' ∧ Step X S γ w δ γ' w' := by
  cases x with
  | pv k c =>
    simp only [Lk.store] at h
    cases hk : m.v k with
    | none => simp [hk] at h
    | some old =>
      simp only [hk] at h
      cases hb : Nat.ble (c + vl.length) old.length with
      | false => simp [hb] at h
      | true =>
        simp only [hb, Out.w0.injEq, reduceCtorEq, or_false] at h
        obtain ⟨rfl, rfl⟩ := h
        obtain ⟨w', h1, h2⟩ := vs_step k c old vl hR htop hx (hm.v k old hk) (Nat.le_of_ble_eq_true hb) hv hs hp
        exact ⟨rfl, w', γ, h1, h2⟩
  | pe r e c =>
    simp only [Lk.store] at h
    cases hr : m.r r with
    | none => simp [hr] at h
    | some row =>
      simp only [hr] at h
      cases ho : ownK row.ow with
      | false => simp [ho] at h
      | true =>
        cases ha : m.absorbs e c vl with
        | none => simp [ho, ha] at h
        | some a =>
          cases hb : Nat.ble (c + vl.length) (sz row.τ) with
          | false => simp [ho, ha, hb] at h
          | true =>
            cases hy : mkEl row.τ (repl (row.cs e) c a.cts) with
            | none => simp [ho, ha, hb, hy] at h
            | some y =>
              simp only [ho, ha, hb, hy] at h
              have hb := Nat.le_of_ble_eq_true hb
              cases hf : allFlat vl with
              | true =>
                simp only [hf, Out.w.injEq, reduceCtorEq, false_or] at h
                obtain ⟨h0, rfl, rfl⟩ := h
                obtain ⟨w', γ', h1, h2⟩ := pf_step hR htop hm hr ho hf ha hb hy h0 hv hx hs hp
                exact ⟨rfl, w', γ', h1, h2⟩
              | false =>
                simp only [hf] at h
                cases hn : nodupN (r :: (keys a.mv ++ keys a.sh)) with
                | false => simp [hn] at h
                | true =>
                  simp only [hn, Out.w.injEq, reduceCtorEq, false_or] at h
                  obtain ⟨h0, rfl, rfl⟩ := h
                  obtain ⟨w', γ', h1, h2⟩ := pe_step hR htop hm hr ho ha hb hy h0 (nodupN_iff.1 hn) hv hx hs hp
                  exact ⟨rfl, w', γ', h1, h2⟩
  | pn r e c k d =>
    simp only [Lk.store] at h
    cases hr : m.r r with
    | none => simp [hr] at h
    | some row =>
      simp only [hr] at h
      cases ho : Nat.beq row.ow 5 with
      | false => simp [ho] at h
      | true =>
        cases hf : allFlat vl with
        | false => simp [ho, hf] at h
        | true =>
          cases hc : m.cts vl with
          | none => simp [ho, hf, hc] at h
          | some cts =>
            simp only [ho, hf, hc, nth_eq] at h
            cases hn : (row.cs e)[c]? with
            | none => simp [hn] at h
            | some ct =>
              cases ct with
              | l τ ys =>
                simp only [hn] at h
                cases hb : Nat.ble (d + vl.length) (sz τ) with
                | false => simp [hb] at h
                | true =>
                  cases hy : mkEl τ (repl (cells τ (ys.getD k (dflt τ))) d cts) with
                  | none => simp only [hb, hy, reduceCtorEq, or_self] at h
                  | some y =>
                    cases hz : mkEl row.τ (repl (row.cs e) c [.l τ (ys.set k y)]) with
                    | none => simp only [hb, hy, hz, reduceCtorEq, or_self] at h
                    | some z =>
                      simp only [hb, hy, hz, Out.w.injEq, reduceCtorEq, false_or] at h
                      obtain ⟨h0, rfl, rfl⟩ := h
                      obtain ⟨w', h1, h2⟩ := pn_step hR htop hm hr (nat_beq ho) hf hc hn (Nat.le_of_ble_eq_true hb) hy hz h0 hv hx hs hp
                      exact ⟨rfl, w', γ, h1, h2⟩
              | _ => simp [hn] at h
  | _ => simp [Lk.store] at h

theorem chg_ok (hX : CtxOk X) (hR : Rel X S.lk γ w) (htop : ∀ g, w.heap.size ≤ g → γ.O g = none) (hm : Le m S.lk) {evp : List (Nat × Bool) → TypeId → Operand → AV} (hev : ∀ ty x, RelA S.lk γ (evp [] ty x) (ρ x))
    {d : Nat} (hd : d < 1500) {o : Oper} {v : AV} (h : stepO X evp m d o.type o.op = .w0 v δ ∨ stepO X evp m d o.type o.op = .w true v δ) : Chgs X S γ w ρ o v δ := by
  obtain ⟨dst, op, type, pos, aft, guard⟩ := o
  simp only at h
  cases op with
  | alloc t =>
    simp only [stepO] at h
    cases hz : X.zero t with
    | none => simp [hz] at h
    | some cs =>
      simp only [hz, Out.w0.injEq, reduceCtorEq, or_false] at h
      obtain ⟨rfl, rfl⟩ := h
      exact Chgs.of rfl (alloc_step hR htop hz _ (by omega))
  | box t x =>
    simp only [stepO] at h
    cases hc : (evp [] t x).cells with
    | none => simp [hc] at h
    | some cs =>
      cases hb : Nat.beq cs.length (szOf X.P t) with
      | false => simp [hc, hb] at h
      | true =>
        simp only [hc, hb, Out.w0.injEq, reduceCtorEq, or_false] at h
        obtain ⟨rfl, rfl⟩ := h
        exact Chgs.of rfl (box_step hR htop (cells_ok hR (hev t x) hc) _ (by omega))
  | buildSlice t n parts =>
    simp only [stepO] at h
    cases ht : X.elOwn t with
    | none => simp [ht] at h
    | some τ =>
      simp only [ht] at h
      cases h1 : Nat.beq parts.size n && Nat.ble (n * sz τ) 16777216 with
      | false => simp [h1] at h
      | true =>
        cases hp : partsOf (evp [] type) (sz τ) 0 parts.toList with
        | none => simp [h1, hp] at h
        | some pss =>
          simp only [h1, hp] at h
          cases hb : m.newEls τ 0 pss with
          | none => simp [hb] at h
          | some b =>
            simp only [hb] at h
            cases hn : nodupN (d * 64 :: (keys b.mv ++ keys b.sh)) with
            | false => simp [hn] at h
            | true =>
              simp only [hn] at h
              simp only [Bool.and_eq_true] at h1
              obtain ⟨h1, h2⟩ := h1
              have h2 := Nat.le_of_ble_eq_true h2
              cases hby : τ.isByte with
              | true =>
                simp only [hby, Out.w.injEq, reduceCtorEq, false_or] at h
                obtain ⟨h0, rfl, rfl⟩ := h
                obtain ⟨v, w', γ', g1, g2, g3⟩ := lit_step hX hR htop hm ht (hev type) (nat_beq h1) h2 hp hb (nodupN_iff.1 hn) (fun _ => h0) (by omega)
                exact Chgs.of rfl ⟨v, w', γ', g1, g2, RelA.of g3⟩
              | false =>
                simp only [hby, Out.w0.injEq, reduceCtorEq, or_false] at h
                obtain ⟨rfl, rfl⟩ := h
                obtain ⟨v, w', γ', g1, g2, g3⟩ := lit_step hX hR htop hm ht (hev type) (nat_beq h1) h2 hp hb (nodupN_iff.1 hn) (fun e => by rw [hby] at e; cases e) (by omega)
                exact Chgs.of rfl ⟨v, w', γ', g1, g2, RelA.of g3⟩
  | store t x y =>
    simp only [stepO] at h
    have hr := hev type x
    cases hx : evp [] type x with
    | c a =>
      cases hc : (evp [] t y).cells with
      | none => simp [hx, hc] at h
      | some cs =>
        simp only [hx, hc] at h
        cases hb : Nat.beq cs.length (szOf X.P t) && Nat.ble 1 cs.length with
        | false => simp [hb] at h
        | true =>
          simp only [hb] at h
          simp only [Bool.and_eq_true] at hb
          rw [hx] at hr
          have hun : a ≠ .un := by rintro rfl; simp [Lk.store] at h
          obtain ⟨rfl, w', γ', h1, h2⟩ := store_step hR htop hm (RelA.to hr hun) (cells_ok hR (hev t y) hc) (nat_beq hb.1) (Nat.le_of_ble_eq_true hb.2) h
          exact Chgs.ofU rfl ⟨w', γ', h1, h2⟩
    | _ => simp [hx] at h
  | makeSlice t n c =>
    simp only [stepO] at h
    cases ht : X.elOwn t with
    | none => simp [ht] at h
    | some τ =>
      cases hn : (evp [] type n).int with
      | none => simp [ht, hn] at h
      | some a =>
        cases hc : (evp [] type c).int with
        | none => simp [ht, hn, hc] at h
        | some b =>
          simp only [ht, hn, hc, Out.w.injEq, reduceCtorEq, false_or, Bool.and_eq_true, beq_iff_eq, decide_eq_true_eq] at h
          obtain ⟨⟨rfl, h0, h1⟩, rfl, rfl⟩ := h
          obtain ⟨k, hk⟩ := int_inv (hev type n) hn
          obtain ⟨k', hk'⟩ := int_inv (hev type c) hc
          have h1 := Nat.le_of_ble_eq_true h1
          obtain ⟨v, w', γ', g1, g2, g3⟩ := make_step hX hR htop ht (k := k) (k' := k') h1 (d * 64) (by omega)
          rw [show ((a.toNat : Nat) : Int) = a by omega] at g1
          exact Chgs.of rfl ⟨v, w', γ', by rw [hk, hk']; exact g1, g2, RelA.of g3⟩
  | call c =>
    obtain ⟨callee, args, argTypes⟩ := c
    cases callee with
    | builtin b =>
      simp only [stepO] at h
      revert h; split
      · intro h; exfalso; revert h; simp only [Ctx.lenO, lenN]
        repeat' split
        all_goals simp
      · rename_i x y t u ha ht
        intro h
        have ha' : args = #[x, y] := Array.toList_inj.1 ha
        have ht' : argTypes = #[t, u] := Array.toList_inj.1 ht
        subst ha'; subst ht'
        simp only [Ctx.appO] at h
        revert h; split
        · rename_i τ a b he hb hxa hyb
          intro h
          have h : m.append τ d a b = .w true v δ := by
            rcases h with h | h
            · exfalso; revert h; simp only [Lk.append]; repeat' split
              all_goals simp
            · exact h
          have := nat_beq hb; subst this
          have hx := hev t x; rw [hxa] at hx
          have hy := hev t y; rw [hyb] at hy
          have hau : a ≠ .un := by
            rintro rfl; revert h; simp only [Lk.append]; repeat' split
            all_goals simp_all
          have hbu : b ≠ .un := by
            rintro rfl; revert h; simp only [Lk.append]; simp [Lk.vw, Vw.ct]
          obtain ⟨r, w', γ', g1, g2, g3⟩ := app_step (ty := type) hX hR htop hm he hd (RelA.to hx hau) (RelA.to hy hbu) h
          refine ⟨.value r, r, w', γ', ?_, .inl rfl, g3, g2⟩
          simp only [Go.execOp, resolve, invoke, Sem.run_bind, Sem.run_pure, Result.andThen_ok, builtin, List.map_toArray, List.map, g1]
        · simp
      · rename_i x t ha ht
        intro h
        have ha' : args = #[x] := Array.toList_inj.1 ha
        have ht' : argTypes = #[t] := Array.toList_inj.1 ht
        subst ha'; subst ht'
        have hx := hev t x
        cases hxe : evp [] t x with
        | c a =>
          rw [hxe] at h hx
          cases a with
          | sl r off len =>
            have h : X.clearO m t (.c (.sl r off len)) = .w0 v δ := by
              rcases h with h | h
              · exact h
              · exfalso; revert h; simp only [Ctx.clearO]; repeat' split
                all_goals simp
            obtain ⟨rfl, w', γ', g1, g2⟩ := clear_step hX hR htop hm hx h type
            refine ⟨.value (.tuple #[]), _, w', γ', ?_, .inl rfl, ⟨[], rfl, .nil⟩, g2⟩
            simp only [Go.execOp, resolve, invoke, Sem.run_bind, Sem.run_pure, Result.andThen_ok, builtin, List.map_toArray, List.map, g1]
          | _ => simp [Ctx.clearO] at h
        | _ => rw [hxe] at h; simp [Ctx.clearO] at h
      · intro h; exfalso; revert h; simp only [mmO]; repeat' split
        all_goals simp
      · intro h; exfalso; revert h; simp only [mmO]; repeat' split
        all_goals simp
      · simp
    | value f => simp [stepO] at h
    | invoke r n => simp [stepO] at h
  | move x => simp [stepO] at h
  | assign x => simp [stepO] at h
  | pick c a b => exfalso; revert h; simp only [stepO]; repeat' split
                  all_goals simp
  | build t ps => exfalso; revert h; simp only [stepO]; repeat' split
                  all_goals simp
  | load t x => exfalso; revert h; simp only [stepO]; repeat' split
                all_goals simp
  | nilCheck x => exfalso; revert h; simp only [stepO]; repeat' split
                  all_goals simp
  | binOp op t x y c =>
    exfalso; revert h; simp only [stepO, Ctx.binT]
    have hb : ∀ (a b : AV), ¬ (binO op a b = .w0 v δ ∨ binO op a b = .w true v δ) := by
      intro a b; simp only [binO]; repeat' split
      all_goals simp
    repeat' split
    all_goals first | exact hb _ _ | simp
  | unOp op t x => exfalso; revert h; simp only [stepO, unO]; repeat' split
                   all_goals simp
  | convert t u x => exfalso; revert h; simp only [stepO, Ctx.convO]; repeat' split
                     all_goals simp
  | makeFunc fn first caps => exfalso; revert h; cases fn <;> simp only [stepO] <;> repeat' split
                              all_goals simp
  | slice t x lo hi mx =>
    exfalso; revert h; simp only [stepO]
    have hb : ∀ (a : AV) (l k : Option Int), ¬ (m.sliceA a l k = .w0 v δ ∨ m.sliceA a l k = .w true v δ) := by
      intro a l k; simp only [Lk.sliceA]; repeat' split
      all_goals simp
    repeat' split
    all_goals first | exact hb _ _ _ | simp
  | fieldAddr t x f => exfalso; revert h; simp only [stepO]; repeat' split
                       all_goals simp
  | field t x f => exfalso; revert h; simp only [stepO]; repeat' split
                   all_goals simp
  | indexAddr t x i => exfalso; revert h; simp only [stepO, Lk.indexA]; repeat' split
                       all_goals simp
  | index t x i => exfalso; revert h; simp only [stepO]; repeat' split
                   all_goals simp
  | extract x i => exfalso; revert h; simp only [stepO]; repeat' split
                   all_goals simp
  | _ => simp [stepO] at h

end Go.Soft
