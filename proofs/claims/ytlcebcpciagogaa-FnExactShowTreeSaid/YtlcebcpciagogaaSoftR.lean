/-
  SoftR: the state in which a function that is called begins.
-/
import Derived.Test.YtlcebcpciagogaaSoftQ
set_option linter.constructorNameAsVariable false
set_option linter.unusedSimpArgs false
set_option linter.unusedVariables false
namespace Go.Soft
open Go
variable {X : Ctx} {m M : Lk} {γ γ' : Gh} {w w' : World} {ρ : Operand → Value} {S : St} {δ : Dl}

theorem disjN_iff {a b : List Nat} : disjN a b = true ↔ ∀ x ∈ a, x ∉ b := by
  induction a with
  | nil => simp [disjN]
  | cons x a ih =>
    simp only [disjN]
    cases h : hasN x b with
    | true => simp; exact fun h2 => absurd (hasN_iff.1 h) h2
    | false =>
      have : x ∉ b := fun h2 => by rw [hasN_iff.2 h2] at h; cases h
      simp [ih, this]

/-! ### the variables of a call -/
/-- a variable's cell that is handed over, or stays -/
def OwnV (m : Lk) (B : Nat → Prop) (G : Nat → Nat → Nat → Prop) (key d : Nat) (c : Cv) : Prop :=
  ((d = 0 ∨ d = 1) ∧ ∀ r, c.row = some r → B r) ∨ (hdK d = true ∧ ((∃ r row, c = .sw r ∧ m.r r = some row ∧ leK d row.ow = true ∧ notIo r = true ∧ G r key d) ∨ ∃ τ, c = .nl τ))
theorem ownRows_inv (key : Nat) : ∀ {cs : List Cv} {ms : List Nat} {j : Nat} {k b : List Nat}, m.ownRows ms cs = some (k, b) → keys (hVc key ms j cs) = k ∧
    ∀ i c, cs[i]? = some c → OwnV m (· ∈ b) (fun r x d => (r, (x, d)) ∈ hVc key ms j cs) (key + (j + i)) (md ms i) c
  | [], ms, j, k, b, h => by simp only [Lk.ownRows, Option.some.injEq, Prod.mk.injEq] at h; obtain ⟨rfl, rfl⟩ := h; simp [hVc, keys]
  | c :: cs, ms, j, k, b, h => by
    simp only [Lk.ownRows] at h
    cases hr : m.ownRows (tl ms) cs with
    | none => simp [hr] at h
    | some p =>
      obtain ⟨k0, b0⟩ := p
      simp only [hr] at h
      obtain ⟨i1, i2⟩ := ownRows_inv key (j := j + 1) hr
      have rest : ∀ (b' : List Nat) (pre : List (Nat × (Nat × Nat))), (∀ x ∈ b0, x ∈ b') → hVc key ms j (c :: cs) = pre ++ hVc key (tl ms) (j + 1) cs →
          OwnV m (· ∈ b') (fun r x d => (r, (x, d)) ∈ hVc key ms j (c :: cs)) (key + (j + 0)) (md ms 0) c →
          ∀ i c', (c :: cs)[i]? = some c' → OwnV m (· ∈ b') (fun r x d => (r, (x, d)) ∈ hVc key ms j (c :: cs)) (key + (j + i)) (md ms i) c' := by
        intro b' pre hb hp h0 i c' hc
        cases i with
        | zero => simp only [List.getElem?_cons_zero, Option.some.injEq] at hc; subst hc; exact h0
        | succ i =>
          have := i2 i c' (by simpa using hc)
          rw [md_tl, show key + (j + 1 + i) = key + (j + (i + 1)) by omega] at this
          rcases this with ⟨h1, h2⟩ | ⟨h1, h2⟩
          · exact .inl ⟨h1, fun r hr => hb _ (h2 r hr)⟩
          · refine .inr ⟨h1, ?_⟩
            rcases h2 with ⟨r, row, e1, e2, e3, e4, e5⟩ | h2
            · exact .inl ⟨r, row, e1, e2, e3, e4, by rw [hp]; exact List.mem_append_right _ e5⟩
            · exact .inr h2
      have bor : (hd ms = 0 ∨ hd ms = 1) → (match c.row with | some r => some (k0, r :: b0) | none => some (k0, b0)) = some (k, b) →
          keys (hVc key ms j (c :: cs)) = k ∧ ∀ i c', (c :: cs)[i]? = some c' → OwnV m (· ∈ b) (fun r x d => (r, (x, d)) ∈ hVc key ms j (c :: cs)) (key + (j + i)) (md ms i) c' := fun hm h => by
        have hp : hVc key ms j (c :: cs) = [] ++ hVc key (tl ms) (j + 1) cs := by rcases hm with hm | hm <;> simp only [hVc, hm]
        cases hrow : c.row with
        | none =>
          rw [hrow] at h; simp only [Option.some.injEq, Prod.mk.injEq] at h; obtain ⟨rfl, rfl⟩ := h
          exact ⟨by rw [hp]; exact i1, rest b0 [] (fun _ h => h) hp (.inl ⟨hm, fun r hr => by rw [hrow] at hr; cases hr⟩)⟩
        | some r =>
          rw [hrow] at h; simp only [Option.some.injEq, Prod.mk.injEq] at h; obtain ⟨rfl, rfl⟩ := h
          exact ⟨by rw [hp]; exact i1, rest (r :: b0) [] (fun _ h => List.mem_cons_of_mem _ h) hp (.inl ⟨hm, fun s hs => by rw [hrow] at hs; cases hs; simp⟩)⟩
      revert h; split
      · rename_i h0; exact fun h => bor (.inl h0) h
      · rename_i h1; exact fun h => bor (.inr h1) h
      · rename_i h0 h1
        split
        · rename_i r
          cases hrr : m.r r with
          | none => simp
          | some row =>
            cases hk : hdK (hd ms) && notIo r with
            | false => simp [hk]
            | true =>
              cases hle : leK (hd ms) row.ow with
              | false => simp [hk, hle]
              | true =>
                simp only [hk, hle, Option.some.injEq, Prod.mk.injEq]
                rintro ⟨rfl, rfl⟩
                simp only [Bool.and_eq_true] at hk
                have hp : hVc key ms j (.sw r :: cs) = [(r, (key + j, hd ms))] ++ hVc key (tl ms) (j + 1) cs := by
                  simp only [hVc]
                exact ⟨by rw [hp, keys_append, i1]; rfl, rest b0 _ (fun _ h => h) hp (.inr ⟨hk.1, .inl ⟨r, row, rfl, hrr, hle, hk.2, by rw [hp, Nat.add_zero]; simp [md_zero]⟩⟩)⟩
        · rename_i τ
          cases hk : hdK (hd ms) with
          | false => simp
          | true =>
            simp only [Option.some.injEq, Prod.mk.injEq]
            rintro ⟨rfl, rfl⟩
            have hp : hVc key ms j (.nl τ :: cs) = [] ++ hVc key (tl ms) (j + 1) cs := by simp only [hVc]
            exact ⟨by rw [hp]; exact i1, rest b0 [] (fun _ h => h) hp (.inr ⟨hk, .inr ⟨τ, rfl⟩⟩)⟩
        · simp


theorem ownRowsOf_inv : ∀ {κ : List Nat} {vl : List (List Nat)} {k0 : Nat} {k b : List Nat}, m.ownRowsOf vl κ = some (k, b) → keys (hVars m k0 vl κ) = k ∧
    ∀ (i v : Nat), κ[i]? = some v → ∃ cs, m.v v = some cs ∧ ∀ j c, cs[j]? = some c → OwnV m (· ∈ b) (fun r x d => (r, (x, d)) ∈ hVars m k0 vl κ) (300000 + (k0 + i) * 64 + j) (md (mdL vl i) j) c
  | [], vl, k0, k, b, h => by simp only [Lk.ownRowsOf, Option.some.injEq, Prod.mk.injEq] at h; obtain ⟨rfl, rfl⟩ := h; simp [hVars, keys]
  | v :: κ, vl, k0, k, b, h => by
    simp only [Lk.ownRowsOf] at h
    cases hv : m.v v with
    | none => simp [hv] at h
    | some cs =>
      cases h1 : m.ownRows (hdL vl) cs with
      | none => simp [hv, h1] at h
      | some p =>
        cases h2 : m.ownRowsOf (tl vl) κ with
        | none => simp [hv, h1, h2] at h
        | some q =>
          obtain ⟨a1, b1⟩ := p
          obtain ⟨a2, b2⟩ := q
          simp only [hv, h1, h2, Option.some.injEq, Prod.mk.injEq] at h
          obtain ⟨rfl, rfl⟩ := h
          obtain ⟨i1, i2⟩ := ownRows_inv (300000 + k0 * 64) (j := 0) h1
          obtain ⟨j1, j2⟩ := ownRowsOf_inv (k0 := k0 + 1) h2
          have hp : hVars m k0 vl (v :: κ) = hVc (300000 + k0 * 64) (hdL vl) 0 cs ++ hVars m (k0 + 1) (tl vl) κ := by simp only [hVars, hv]
          refine ⟨by rw [hp, keys_append, i1, j1], fun i u hu => ?_⟩
          have lift : ∀ {B B' : Nat → Prop} {G G' : Nat → Nat → Nat → Prop} {key d : Nat} {c : Cv}, (∀ r, B r → B' r) → (∀ r k d, G r k d → G' r k d) → OwnV m B G key d c → OwnV m B' G' key d c := by
            intro B B' G G' key d c hB hG h
            rcases h with ⟨h1, h2⟩ | ⟨h1, ⟨r, row, e1, e2, e3, e4, e5⟩ | h2⟩
            · exact .inl ⟨h1, fun r hr => hB _ (h2 r hr)⟩
            · exact .inr ⟨h1, .inl ⟨r, row, e1, e2, e3, e4, hG _ _ _ e5⟩⟩
            · exact .inr ⟨h1, .inr h2⟩
          cases i with
          | zero =>
            simp only [List.getElem?_cons_zero, Option.some.injEq] at hu; subst hu
            refine ⟨cs, hv, fun j c hc => ?_⟩
            have := i2 j c hc
            rw [Nat.zero_add] at this
            rw [Nat.add_zero, mdL_zero]
            exact lift (fun r hr => List.mem_append_left _ hr) (fun r k d hg => by rw [hp]; exact List.mem_append_left _ hg) this
          | succ i =>
            obtain ⟨cs', hv', h3⟩ := j2 i u (by simpa using hu)
            refine ⟨cs', hv', fun j c hc => ?_⟩
            have := h3 j c hc
            rw [mdL_tl, show k0 + 1 + i = k0 + (i + 1) by omega] at this
            exact lift (fun r hr => List.mem_append_right _ hr) (fun r k d hg => by rw [hp]; exact List.mem_append_right _ hg) this

theorem vins_inv : ∀ {κ : List Nat} {vl : List (List Nat)} {vin : List (List Ct)}, m.vins vl κ = some vin → vin.length = κ.length ∧
    ∀ (i v : Nat), κ[i]? = some v → ∃ cs l, m.v v = some cs ∧ m.cts cs = some l ∧ vin[i]? = some l ∧ cs.length ≤ 63
  | [], vl, vin, h => by simp only [Lk.vins, Option.some.injEq] at h; subst h; simp
  | v :: κ, vl, vin, h => by
    simp only [Lk.vins] at h
    cases hv : m.v v with
    | none => simp [hv] at h
    | some cs =>
      cases hb : Nat.ble cs.length 63 with
      | false => simp [hv, hb] at h
      | true =>
        cases hc : m.cts cs with
        | none => simp [hv, hb, hc] at h
        | some l =>
          cases hr : m.vins (tl vl) κ with
          | none => simp [hv, hb, hc, hr] at h
          | some r =>
            simp only [hv, hb, hc, hr, Option.some.injEq] at h; subst h
            obtain ⟨i1, i2⟩ := vins_inv hr
            refine ⟨by simp [i1], fun i u hu => ?_⟩
            cases i with
            | zero => simp only [List.getElem?_cons_zero, Option.some.injEq] at hu; subst hu; exact ⟨cs, l, hv, hc, rfl, Nat.le_of_ble_eq_true hb⟩
            | succ i =>
              obtain ⟨cs', l', h1, h2, h3, h4⟩ := i2 i u (by simpa using hu)
              exact ⟨cs', l', h1, h2, by simpa using h3, h4⟩

theorem cts_get : ∀ {cs : List Cv} {ys : List Ct}, m.cts cs = some ys → ys.length = cs.length ∧ ∀ (i : Nat) (y : Ct), ys[i]? = some y → ∃ c, cs[i]? = some c ∧ m.ct c = some y
  | [], ys, h => by simp only [Lk.cts, Option.some.injEq] at h; subst h; simp
  | c :: cs, ys, h => by
    simp only [Lk.cts] at h
    cases h1 : m.ct c with
    | none => simp [h1] at h
    | some y =>
      cases h2 : m.cts cs with
      | none => simp [h1, h2] at h
      | some r =>
        simp only [h1, h2, Option.some.injEq] at h; subst h
        obtain ⟨i1, i2⟩ := cts_get h2
        refine ⟨by simp [i1], fun i u hu => ?_⟩
        cases i with
        | zero => simp only [List.getElem?_cons_zero, Option.some.injEq] at hu; subst hu; exact ⟨c, rfl, h1⟩
        | succ i => simpa using i2 i u (by simpa using hu)


/-! ### the ghosts of the function that is called -/
structure CallI where
  m : Lk
  g : Sig
  avs : List AV
  ar : AR
  vin : List (List Ct)
  ow : List Nat
  b : List Nat
structure CallI.Ok (c : CallI) : Prop where
  args : c.m.args c.g.am c.avs [] = some c.ar
  vins : c.m.vins c.g.vl c.ar.κ = some c.vin
  hand : c.m.handed c.g c.ar = some (c.ow, c.b)
  len : c.avs.length ≤ 1000
  klen : c.ar.κ.length ≤ 1000
def CallI.H (c : CallI) : List (Nat × (Nat × Nat)) := hGone c.g.am 0 c.avs ++ (hVars c.m 0 c.g.vl c.ar.κ ++ hIo c.g.am 0 c.avs)
def CallI.bor (c : CallI) (r : Nat) : Prop := r ∈ c.ar.bor ∨ r ∈ c.b
open Classical in
noncomputable def CallI.rb (c : CallI) : Rb where
  r r := match lk c.H r with
    | some p => some p
    | none => if r ∈ c.ar.fz then some (0, 3) else if c.bor r ∧ ∃ row, c.m.r r = some row ∧ ownK row.ow = true then some (0, 1) else none
  d := some .x
  v v := match idxO v 0 c.ar.κ with | some k => some (.v k) | none => some .x
def cellAt (v : Value) (j : Nat) : Value := v.cells.toList.getD j undef
def CallI.rv (c : CallI) (γ : Gh) (w : World) (args : List Value) (key : Nat) : Value :=
  if key < 200000 then cellAt (args.getD ((key - 100000) / 64) undef) ((key - 100000) % 64) else if key < 300000 then args.getD ((key - 200000) / 64) undef
  else match w.heap[γ.vb (c.ar.κ.getD ((key - 300000) / 64) 0)]? with
    | some (.cells cur _ _) => cur.toList.getD ((key - 300000) % 64) undef
    | _ => undef
noncomputable def CallI.O (c : CallI) (γ : Gh) : OM := fun g => (γ.O g).bind c.rb.f
open Classical in
noncomputable def CallI.cv (c : CallI) (X : Ctx) (γ : Gh) (w : World) (args : List Value) (key : Nat) : List Value :=
  match (entry c.g c.ar.acs c.vin).lk.r key with
  | some row => if h : ∃ cs, RowR X (c.O γ) w key row (c.rv γ w args key) cs then Classical.choose h else []
  | none => []
noncomputable def CallI.gh (c : CallI) (X : Ctx) (γ : Gh) (w : World) (args : List Value) : Gh := ⟨c.O γ, c.rv γ w args, c.cv X γ w args, fun k => γ.vb (c.ar.κ.getD k 0)⟩

structure CallI.Fact (c : CallI) : Prop where
  nd : (keys c.H).Nodup
  hk : ∀ r k d, (r, (k, d)) ∈ c.H → c.rb.r r = some (k, d)
  fz : ∀ r, r ∈ c.ar.fz → c.rb.r r = some (0, 3)
  bor : ∀ r, c.bor r → lk c.H r = none
  fzH : ∀ r, r ∈ c.ar.fz → lk c.H r = none
  kH : keys c.H = c.ar.gone ++ (c.ow ++ c.ar.io)

theorem CallI.Ok.fact {c : CallI} (h : c.Ok) : c.Fact := by
  have ha := args_inv c.avs c.g.am [] 0 c.ar h.args
  have hh := h.hand
  simp only [Lk.handed] at hh
  cases ho : c.m.ownRowsOf c.g.vl c.ar.κ with
  | none => simp [ho] at hh
  | some p =>
    obtain ⟨ow, b⟩ := p
    simp only [ho] at hh
    have hk1 := (ownRowsOf_inv (k0 := 0) ho).1
    revert hh; split
    · rename_i n1 n2 n3 n4
      intro hh; simp only [Option.some.injEq, Prod.mk.injEq] at hh
      obtain ⟨e1, e2⟩ := hh
      rw [e1] at n1 n2 n3 n4 hk1
      rw [e2] at n4
      have kH : keys c.H = c.ar.gone ++ (c.ow ++ c.ar.io) := by
        simp only [CallI.H, keys_append, ha.gone, ha.io, hk1]
      have nd : (keys c.H).Nodup := by rw [kH]; exact nodupN_iff.1 n1
      have no : ∀ r, r ∉ c.ar.gone ++ (c.ow ++ c.ar.io) → lk c.H r = none := fun r hr => lk_none.2 (by rw [kH]; exact hr)
      have fzH : ∀ r, r ∈ c.ar.fz → lk c.H r = none := fun r hr => no r (disjN_iff.1 n2 r hr)
      refine ⟨nd, fun r k d hm => ?_, fun r hr => ?_, fun r hr => ?_, fzH, kH⟩
      · simp only [CallI.rb, lk_of_mem nd hm]
      · simp only [CallI.rb, fzH r hr, if_pos hr]
      · rcases hr with hr | hr
        · exact no r (disjN_iff.1 n3 r hr)
        · exact no r (disjN_iff.1 n4 r hr)
    · intro hh; cases hh

theorem InR_cases {r ow : Nat} {o : Option Ow} (h : InR r ow o) : o = none ∨ o = some .fz ∨ (o = some (.r r) ∧ ownK ow = true) ∨ ∃ e c, o = some (.n r e c) ∧ ow = 5 := by
  rcases h with h | ⟨e, c, h⟩
  · revert h; simp only [topC]; split
    · rename_i ho; exact fun h => .inr (.inr (.inl ⟨h, ho⟩))
    · split
      · exact fun h => .inr (.inl h)
      · exact fun h => h.elim .inl (fun h => .inr (.inl h))
  · revert h; simp only [nesC]; split
    · exact fun h => .inr (.inr (.inr ⟨e, c, h, rfl⟩))
    · exact fun h => .inr (.inl h)
    · exact fun h => .inr (.inl h)
    · exact fun h => h.elim .inl (fun h => .inr (.inl h))

theorem CallI.Fact.in_bor {c : CallI} (hf : c.Fact) {r : Nat} (hb : c.bor r) {row : Row} (hr : c.m.r r = some row) {o : Option Ow} (h : InR r row.ow o) : In .bor (o.bind c.rb.f) := by
  have key : ownK row.ow = true → c.rb.r r = some (0, 3) ∨ c.rb.r r = some (0, 1) := by
    intro ho
    by_cases hz : r ∈ c.ar.fz
    · exact .inl (hf.fz r hz)
    · right; simp only [CallI.rb, hf.bor r hb, if_neg hz, if_pos (⟨hb, row, hr, ho⟩ : c.bor r ∧ ∃ row, c.m.r r = some row ∧ ownK row.ow = true)]
  rcases InR_cases h with rfl | rfl | ⟨rfl, ho⟩ | ⟨e, c', rfl, h5⟩
  · exact .inl rfl
  · exact .inr rfl
  · show In .bor (c.rb.f (.r r))
    rcases key ho with h1 | h1 <;> simp only [Rb.f, h1]
    · exact .inr rfl
    · exact .inl rfl
  · show In .bor (c.rb.f (.n r e c'))
    rcases key (by rw [h5]; rfl) with h1 | h1 <;> simp only [Rb.f, h1]
    · exact .inr rfl
    · exact .inl rfl

theorem RowR.nil (X : Ctx) (O : OM) (w : World) (k : Nat) (τ : Ty) (d : Nat) : RowR X O w k ⟨τ, [], d⟩ (.slice none 0 0) [] := by
  refine ⟨?_, fun e c ct he => by simp at he⟩
  show Sl X O w (topC k d) τ _ _ _
  cases topC k d with
  | own t => exact ⟨World.ownsRow_nil w 0 _ _, by simp [Value.ownBlock]⟩
  | _ => exact ⟨by simp, .inl ⟨rfl, rfl⟩⟩

theorem ct_l_vw {c : Cv} {τ : Ty} {xs : List (El τ)} (h : m.ct c = some (.l τ xs)) : (m.vw c).ct = some (.l τ xs) := by
  cases c <;> first | exact h | (simp [Lk.ct] at h; done)

/-- a cell that goes in: the row that it is there -/
theorem CallI.Fact.cell {c : CallI} (hf : c.Fact) (hm : Le c.m S.lk) (hR : Rel X S.lk γ w) {x : Cv} {u : Value} (hx : RelC S.lk γ x u) {τ : Ty} {xs : List (El τ)} (hct : c.m.ct x = some (.l τ xs)) {key d : Nat}
    (h : (d = 1 ∧ ∀ r, x.row = some r → c.bor r) ∨ (hdK d = true ∧ OwnC c.m d x ∧ ∀ r, x = .sw r → (r, (key, d)) ∈ c.H ∨ (d = 3 ∧ r ∈ c.ar.fz))) :
    ∃ cs, RowR X (c.O γ) w key ⟨τ, xs, d⟩ u cs := by
  rcases h with ⟨rfl, hb⟩ | ⟨hd, ho, hh⟩
  · obtain ⟨cs, hv⟩ := vw_visI (A := fun g => In .bor (c.O γ g)) hm hR hx (fun r row g hr hxr hi => hf.in_bor (hb r hxr) hr hi) (ct_l_vw hct)
    exact ⟨cs, hv.of_bor⟩
  · rcases ho with ⟨r, row, rfl, hr, hle⟩ | ⟨σ, rfl⟩ | ⟨b, rfl⟩ | ⟨k, n, rfl⟩ | ⟨s, rfl⟩
    · simp only [Lk.ct, Lk.vw, hr, Vw.ct, Option.some.injEq, Ct.l.injEq] at hct
      obtain ⟨rfl, hct⟩ := hct; cases hct
      obtain ⟨_, rfl⟩ := hx
      rcases hh r rfl with h1 | ⟨rfl, h1⟩
      · exact ⟨γ.cv r, (hR.rs r row (hm.r r row hr)).relabel (a := c.rb) (fun _ => hf.hk r key d h1) hle (fun g o hg _ => ⟨hg, rfl⟩)⟩
      · have := (hR.rs r row (hm.r r row hr)).relabel (a := c.rb) (O' := c.O γ) (fun _ => hf.fz r h1) hle (fun g o hg _ => ⟨hg, rfl⟩)
        exact ⟨γ.cv r, this.top, this.cel⟩
    · simp only [Lk.ct, Lk.vw, Vw.ct, Option.some.injEq, Ct.l.injEq] at hct
      obtain ⟨rfl, hct⟩ := hct; cases hct
      have hx : u = .slice none 0 0 := hx
      subst hx
      exact ⟨[], RowR.nil _ _ _ _ _ _⟩
    · simp [Lk.ct] at hct
    · simp [Lk.ct] at hct
    · simp [Lk.ct] at hct


/-! ### the state that the function begins in -/
theorem RelAs.of_get {m : Lk} {γ : Gh} : ∀ {l : List AV} {u : List Value}, l.length = u.length → (∀ (i : Nat) (x : AV) (v : Value), l[i]? = some x → u[i]? = some v → RelA m γ x v) → RelAs m γ l u
  | [], [], _, _ => .nil
  | [], _ :: _, h, _ => by simp at h
  | _ :: _, [], h, _ => by simp at h
  | x :: l, v :: u, hl, h => .cons (h 0 x v rfl rfl) (RelAs.of_get (by simpa using hl) fun i x v hx hv => h (i + 1) x v hx hv)
theorem RelAs.get {m : Lk} {γ : Gh} {l : List AV} {u : List Value} (h : RelAs m γ l u) : l.length = u.length ∧ ∀ (i : Nat) (x : AV), l[i]? = some x → ∃ v, u[i]? = some v ∧ RelA m γ x v := by
  induction h with
  | nil => simp
  | cons hx _ ih =>
    refine ⟨by simp [ih.1], fun i y hy => ?_⟩
    cases i with
    | zero => simp at hy; subst hy; exact ⟨_, rfl, hx⟩
    | succ i => simpa using ih.2 i y (by simpa using hy)

theorem ct_u {c : Cv} (h : m.ct c = some .u) : c = .un := by
  cases c with
  | un => rfl
  | b x => simp [Lk.ct] at h
  | i k n => simp [Lk.ct] at h
  | s x => simp [Lk.ct] at h
  | _ =>
    exfalso; simp only [Lk.ct] at h
    revert h; cases m.vw _ <;> simp [Vw.ct]
theorem ct_flat {c : Cv} {y : Ct} (h : m.ct c = some y) (hu : y ≠ .u) (hl : ∀ τ xs, y ≠ .l τ xs) : RelC M γ c = fun v => v = ctVal y := by
  cases c with
  | un => simp [Lk.ct] at h; exact absurd h.symm hu
  | b x => simp [Lk.ct] at h; subst h; rfl
  | i k n => simp [Lk.ct] at h; subst h; rfl
  | s x => simp [Lk.ct] at h; subst h; rfl
  | _ =>
    exfalso; simp only [Lk.ct] at h
    revert h; cases m.vw _ <;> simp [Vw.ct]
    all_goals (intro h; exact hl _ _ h.symm)

/-- the cell that the function sees -/
theorem entCell_rel {e0 : Lk} {γ0 : Gh} (hR : Rel X M γ w) {c : Cv} {v : Value} (hx : RelC M γ c v) {y y' : Ct} (h : m.ct c = some y) (hy : y' = y ∨ y' = hideC y) {key : Nat}
    (hl : ∀ τ xs, y' = .l τ xs → (∃ row, e0.r key = some row) ∧ v = γ0.rv key) : RelC e0 γ0 (entCell key y') v := by
  cases y' with
  | u => exact hx.one hR
  | l τ xs => exact hl τ xs rfl
  | b x =>
    have : y = .b x := by rcases hy with h | h; exact h.symm; cases y <;> simp_all [hideC]
    subst this
    have := ct_flat (M := M) (γ := γ) h (by simp) (by simp)
    rw [this] at hx; exact hx
  | i k n =>
    have : y = .i k n := by rcases hy with h | h; exact h.symm; cases y <;> simp_all [hideC]
    subst this
    have := ct_flat (M := M) (γ := γ) h (by simp) (by simp)
    rw [this] at hx; exact hx
  | s x =>
    have : y = .s x := by rcases hy with h | h; exact h.symm; cases y <;> simp_all [hideC]
    subst this
    have := ct_flat (M := M) (γ := γ) h (by simp) (by simp)
    rw [this] at hx; exact hx

/-- the cells of an argument by value -/
theorem byv_rel (hR : Rel X M γ w) {v : AV} {x : AC} {cs : List Cv} {ys : List Ct} (h : ByV v x cs ys) {u : Value} (hv : RelA M γ v u) : (v = .c .un ∧ cs = [.un]) ∨ RelL M γ cs u.cells.toList := by
  rcases h with ⟨rfl, rfl⟩ | ⟨c, y, rfl, rfl, rfl, rfl⟩
  · exact .inr (cells_ok hR hv rfl)
  · by_cases hu : c = .un
    · subst hu; exact .inl ⟨rfl, rfl⟩
    · right; exact cells_ok hR hv (by cases c <;> first | rfl | exact absurd rfl hu)

theorem CallI.rv_arg (c : CallI) (γ : Gh) (w : World) (args : List Value) (P j : Nat) (hj : j < 64) (hP : P ≤ 1000) : c.rv γ w args (100000 + P * 64 + j) = cellAt (args.getD P undef) j := by
  have h1 : 100000 + P * 64 + j < 200000 := by omega
  have h2 : (100000 + P * 64 + j - 100000) / 64 = P := by omega
  have h3 : (100000 + P * 64 + j - 100000) % 64 = j := by omega
  simp only [CallI.rv, if_pos h1, h2, h3]
theorem CallI.rv_io (c : CallI) (γ : Gh) (w : World) (args : List Value) (P : Nat) (hP : P ≤ 1000) : c.rv γ w args (200000 + P * 64) = args.getD P undef := by
  have h1 : ¬ 200000 + P * 64 < 200000 := by omega
  have h2 : 200000 + P * 64 < 300000 := by omega
  have h3 : (200000 + P * 64 - 200000) / 64 = P := by omega
  simp only [CallI.rv, if_neg h1, if_pos h2, h3]
theorem CallI.rv_var (c : CallI) (γ : Gh) (w : World) (args : List Value) (k j v : Nat) (hj : j < 64) (hk : c.ar.κ[k]? = some v) {cur : Array Value} {e : TypeId} {fz : Nat × Nat} (hc : w.heap[γ.vb v]? = some (.cells cur e fz)) :
    c.rv γ w args (300000 + k * 64 + j) = cur.toList.getD j undef := by
  have h1 : ¬ 300000 + k * 64 + j < 200000 := by omega
  have h2 : ¬ 300000 + k * 64 + j < 300000 := by omega
  have h3 : (300000 + k * 64 + j - 300000) / 64 = k := by omega
  have h4 : (300000 + k * 64 + j - 300000) % 64 = j := by omega
  have h5 : c.ar.κ.getD k 0 = v := by simp [List.getD, hk]
  simp only [CallI.rv, if_neg h1, if_neg h2, h3, h4, h5, hc]

structure CallI.Ent (c : CallI) (X : Ctx) (S : St) (γ : Gh) (w : World) (args : List Value) : Prop where
  ok : c.Ok
  le : Le c.m S.lk
  rel : Rel X S.lk γ w
  top : ∀ g, w.heap.size ≤ g → γ.O g = none
  args : RelAs S.lk γ c.avs args

/-- what came to a row's key -/
theorem CallI.Ent.arg {c : CallI} {args : List Value} (h : c.Ent X S γ w args) {P : Nat} {x : AC} (hx : c.ar.acs[P]? = some x) : ∃ v u, c.avs[P]? = some v ∧ args[P]? = some u ∧ args.getD P undef = u ∧ RelA S.lk γ v u ∧ P ≤ 1000 ∧
    ArgR c.m c.ar.κ (fun r k d => (r, (k, d)) ∈ c.H) (· ∈ c.ar.fz) (· ∈ c.ar.bor) (c.ar.imm = true) (md c.g.am P) P v x := by
  have ha := args_inv c.avs c.g.am [] 0 c.ar h.ok.args
  have hP : P < c.avs.length := by have := (List.getElem?_eq_some_iff.1 hx).1; rw [ha.len] at this; exact this
  have hv : c.avs[P]? = some c.avs[P] := List.getElem?_eq_getElem hP
  obtain ⟨u, hu, hr⟩ := h.args.get.2 P _ hv
  obtain ⟨x', hx', hA⟩ := ha.arg P _ hv
  rw [hx] at hx'; cases hx'
  refine ⟨_, u, hv, hu, by simp [List.getD, hu], hr, by have := h.ok.len; omega, ?_⟩
  rw [Nat.zero_add] at hA
  refine hA.mono (fun _ _ h => h) (fun r k d hg => ?_) (fun _ h => h) (fun _ h => h) id
  simp only [CallI.H, List.mem_append] at hg ⊢
  rcases hg with hg | hg
  · exact .inl hg
  · exact .inr (.inr hg)

theorem hdK_cases {d : Nat} (h : hdK d = true) : d = 3 ∨ d = 4 ∨ d = 5 := by revert h; simp only [hdK]; split <;> simp_all
theorem kd_hd {d : Nat} (h : hdK d = true) : kd 0 d = d := by rcases hdK_cases h with rfl | rfl | rfl <;> rfl

theorem CallI.Ent.row {c : CallI} {args : List Value} (h : c.Ent X S γ w args) {key : Nat} {row : Row} (hr : (entry c.g c.ar.acs c.vin).lk.r key = some row) :
    ∃ cs, RowR X (c.O γ) w key row (c.rv γ w args key) cs := by
  have hf := h.ok.fact
  rcases entry_r hr with ⟨P, x, hx, hA⟩ | ⟨k, l, j, τ, xs, hl, hj, rfl, rfl⟩
  · obtain ⟨v, u, hv, hu, hgu, hrv, hP, hA2⟩ := h.arg hx
    rcases hA with ⟨j, τ, xs, hj, rfl, rfl⟩ | ⟨τ, xs, rfl, rfl, rfl⟩
    · cases hA2 with
      | val h1 h2 h3 h4 =>
        rename_i cs ys ys'
        have hacl : acl x = ys' := by rcases h1 with ⟨_, rfl⟩ | ⟨_, _, _, rfl, _, rfl⟩ <;> rfl
        rw [hacl] at hj
        rcases h4 with ⟨hd, rfl, hb, _⟩ | ⟨hd, rfl⟩ | ⟨hd, rfl, ho, hz, hg, _⟩
        · obtain ⟨cc, hc, hct⟩ := (cts_get h3).2 j _ hj
          rcases byv_rel h.rel h1 hrv with ⟨rfl, rfl⟩ | hrl
          · cases j <;> simp at hc; subst hc; simp [Lk.ct] at hct
          · obtain ⟨uv, huv, hrc⟩ := hrl.get hc
            have hjl : j < 64 := by have := (List.getElem?_eq_some_iff.1 hc).1; omega
            rw [c.rv_arg γ w args P j hjl hP, hgu, show cellAt u j = uv by simp [cellAt, List.getD, huv]]
            rw [hd]
            exact hf.cell h.le h.rel hrc hct (.inl ⟨rfl, fun r hr => .inl (hb cc (List.mem_of_getElem? hc) r hr)⟩)
        · rw [List.getElem?_map] at hj
          cases hy : ys[j]? with
          | none => rw [hy] at hj; cases hj
          | some y => rw [hy] at hj; cases y <;> simp [hideC] at hj
        · obtain ⟨cc, hc, hct⟩ := (cts_get h3).2 j _ hj
          rcases byv_rel h.rel h1 hrv with ⟨rfl, rfl⟩ | hrl
          · cases j <;> simp at hc; subst hc; simp [Lk.ct] at hct
          · obtain ⟨uv, huv, hrc⟩ := hrl.get hc
            have hjl : j < 64 := by have := (List.getElem?_eq_some_iff.1 hc).1; omega
            rw [c.rv_arg γ w args P j hjl hP, hgu, show cellAt u j = uv by simp [cellAt, List.getD, huv], kd_hd hd]
            refine hf.cell h.le h.rel hrc hct (.inr ⟨hd, ho cc (List.mem_of_getElem? hc), fun r e => ?_⟩)
            by_cases h3' : md c.g.am P = 3
            · exact .inr ⟨h3', hz h3' cc (List.mem_of_getElem? hc) r e⟩
            · exact .inl (hg h3' j r (by rw [hc, e]))
      | io h1 h2 h3 h4 => simp [acl] at hj
      | _ => simp [acl] at hj
    · cases hA2 with
      | io h0 h1 h2 h3 =>
        rename_i r
        rw [c.rv_io γ w args P hP, hgu]
        have hrc : RelC S.lk γ (.sw r) u := hrv
        exact hf.cell h.le h.rel hrc (by simp [Lk.ct, Lk.vw, h2, Vw.ct]) (.inr ⟨rfl, .inl ⟨r, _, rfl, h2, rfl⟩, fun s e => by cases e; exact .inl h3⟩)
      | val h1 => rcases h1 with ⟨_, h⟩ | ⟨_, _, _, h, _⟩ <;> cases h
  · have hvi := vins_inv h.ok.vins
    have hk : k < c.ar.κ.length := by have := (List.getElem?_eq_some_iff.1 hl).1; rw [hvi.1] at this; exact this
    have hkv : c.ar.κ[k]? = some c.ar.κ[k] := List.getElem?_eq_getElem hk
    obtain ⟨cs, l', hcs, hct, hl', h63⟩ := hvi.2 k _ hkv
    rw [hl] at hl'; cases hl'
    obtain ⟨cc, hc, hcc⟩ := (cts_get hct).2 j _ hj
    obtain ⟨_, cur, e, hcur, hrl⟩ := h.rel.vs _ cs (h.le.v _ _ hcs)
    obtain ⟨uv, huv, hrc⟩ := hrl.get hc
    have hjl : j < 64 := by have := (List.getElem?_eq_some_iff.1 hc).1; omega
    rw [c.rv_var γ w args k j _ hjl hkv hcur, show cur.toList.getD j undef = uv by simp only [List.getD, huv]; rfl]
    have hh := h.ok.hand
    simp only [Lk.handed] at hh
    cases ho : c.m.ownRowsOf c.g.vl c.ar.κ with
    | none => simp [ho] at hh
    | some p =>
      obtain ⟨ow, b⟩ := p
      have hb : b = c.b := by
        simp only [ho] at hh
        revert hh; split
        · intro hh; simp only [Option.some.injEq, Prod.mk.injEq] at hh; exact hh.2
        · intro hh; cases hh
      obtain ⟨cs2, hcs2, hov⟩ := (ownRowsOf_inv (k0 := 0) ho).2 k _ hkv
      rw [hcs] at hcs2; cases hcs2
      have hov := hov j cc hc
      rw [Nat.zero_add] at hov
      have hH : ∀ r x d, (r, (x, d)) ∈ hVars c.m 0 c.g.vl c.ar.κ → (r, (x, d)) ∈ c.H := fun r x d hm => List.mem_append_right _ (List.mem_append_left _ hm)
      rcases hov with ⟨hd, hbb⟩ | ⟨hd, ⟨r, row, rfl, e2, e3, e4, e5⟩ | ⟨σ, rfl⟩⟩
      · have : kd 0 (md (mdL c.g.vl k) j) = 1 := by rcases hd with h | h <;> rw [h] <;> rfl
        rw [this]
        exact hf.cell h.le h.rel hrc hcc (.inl ⟨rfl, fun r hr => .inr (hb ▸ hbb r hr)⟩)
      · rw [kd_hd hd]
        exact hf.cell h.le h.rel hrc hcc (.inr ⟨hd, .inl ⟨r, row, rfl, e2, e3⟩, fun s e => by cases e; exact .inl (hH _ _ _ e5)⟩)
      · rw [kd_hd hd]
        exact hf.cell h.le h.rel hrc hcc (.inr ⟨hd, .inr (.inl ⟨σ, rfl⟩), fun s e => by cases e⟩)

theorem CallI.Ent.pre {c : CallI} {args : List Value} (h : c.Ent X S γ w args) : Pre X c.g c.ar.acs c.vin (c.gh X γ w args) w args := by
  have hf := h.ok.fact
  have ha := args_inv c.avs c.g.am [] 0 c.ar h.ok.args
  have hvi := vins_inv h.ok.vins
  refine ⟨⟨fun k cs hk => ?_, fun key row hr => ?_⟩, fun b hb => ?_, RelAs.of_get ?_ fun P x u hx hu => ?_⟩
  · rw [entry_v] at hk
    cases hl : c.vin[k]? with
    | none => rw [hl] at hk; cases hk
    | some l =>
      rw [hl] at hk; simp only [Option.map_some, Option.some.injEq] at hk; subst hk
      have hkl : k < c.ar.κ.length := by have := (List.getElem?_eq_some_iff.1 hl).1; rw [hvi.1] at this; exact this
      have hkv : c.ar.κ[k]? = some c.ar.κ[k] := List.getElem?_eq_getElem hkl
      obtain ⟨cs, l', hcs, hct, hl', h63⟩ := hvi.2 k _ hkv
      rw [hl] at hl'; cases hl'
      obtain ⟨hO, cur, e, hcur, hrl⟩ := h.rel.vs _ cs (h.le.v _ _ hcs)
      have hvb : (c.gh X γ w args).vb k = γ.vb c.ar.κ[k] := by show γ.vb (c.ar.κ.getD k 0) = _; simp [List.getD, hkv]
      rw [hvb]
      have hidx : idxO c.ar.κ[k] 0 c.ar.κ = some k := by
        cases hi : idxO c.ar.κ[k] 0 c.ar.κ with
        | none => exact absurd (List.getElem_mem hkl) (idxO_none hi)
        | some k' =>
          have h1 := (idxO_get hi).2
          have hnd : c.ar.κ.Nodup := ha.nd (by simp)
          have h2 : k' - 0 < c.ar.κ.length := (List.getElem?_eq_some_iff.1 h1).1
          have := (List.getElem?_inj h2 hnd).1 (h1.trans hkv.symm)
          rw [← this]; simp
      refine ⟨?_, cur, e, hcur, ?_⟩
      · show (γ.O (γ.vb c.ar.κ[k])).bind c.rb.f = some (.v k)
        rw [hO]
        show c.rb.f (.v c.ar.κ[k]) = _
        simp only [Rb.f, CallI.rb, hidx]
      · have hlen := (cts_get hct).1
        have hlr := hrl.length
        apply RelL.of_get
        · rw [entC_length, hlen]; exact hlr
        · intro j x v hx hv
          rw [entC_get] at hx
          cases hy : l[j]? with
          | none => rw [hy] at hx; cases hx
          | some y =>
            rw [hy] at hx; simp only [Option.map_some, Option.some.injEq, Nat.add_zero] at hx; subst hx
            obtain ⟨cc, hc, hcc⟩ := (cts_get hct).2 j _ hy
            obtain ⟨uv, huv, hrc⟩ := hrl.get hc
            rw [hv] at huv; cases huv
            have hjl : j < 64 := by have := (List.getElem?_eq_some_iff.1 hc).1; omega
            refine entCell_rel h.rel hrc hcc (.inl rfl) fun τ xs e1 => ⟨entry_has (.inr ⟨k, l, j, τ, xs, hl, by rw [hy, e1], rfl, rfl⟩), ?_⟩
            show v = c.rv γ w args (300000 + k * 64 + j)
            rw [c.rv_var γ w args k j _ hjl hkv hcur]; simp only [List.getD, hv]; rfl
  · have hex := h.row hr
    show RowR X (c.O γ) w key row (c.rv γ w args key) (c.cv X γ w args key)
    have : c.cv X γ w args key = Classical.choose hex := by simp only [CallI.cv, hr, dif_pos hex]
    rw [this]; exact Classical.choose_spec hex
  · show (γ.O b).bind c.rb.f = none
    rw [h.top b hb]; rfl
  · have hal : (entA c.g.am 0 c.ar.acs).1.length = c.ar.acs.length := by
      have h1 := entA_get c.ar.acs c.g.am 0
      apply Nat.le_antisymm
      · apply Nat.not_lt.1; intro hlt
        have := h1 c.ar.acs.length
        rw [List.getElem?_eq_getElem hlt] at this; simp at this
      · apply Nat.not_lt.1; intro hlt
        have := h1 (entA c.g.am 0 c.ar.acs).1.length
        rw [List.getElem?_eq_none (Nat.le_refl _), List.getElem?_eq_getElem hlt] at this; simp at this
    rw [hal, ha.len]; exact h.args.get.1
  · rw [entA_get] at hx
    cases hy : c.ar.acs[P]? with
    | none => rw [hy] at hx; cases hx
    | some y =>
      rw [hy] at hx; simp only [Option.map_some, Option.some.injEq, Nat.zero_add] at hx; subst hx
      obtain ⟨v, u', hv, hu', hgu, hrv, hP, hA⟩ := h.arg hy
      rw [hu] at hu'; cases hu'
      have hvar : ∀ i k, c.ar.κ[i]? = some k → (∃ cs, (entry c.g c.ar.acs c.vin).lk.v i = some cs) ∧ (c.gh X γ w args).vb i = γ.vb k := by
        intro i k hk
        obtain ⟨cs, l, hcs, hct, hl, _⟩ := hvi.2 i k hk
        exact ⟨⟨_, by rw [entry_v, hl]; rfl⟩, by show γ.vb (c.ar.κ.getD i 0) = _; simp [List.getD, hk]⟩
      have hA0 := hA
      cases hA with
      | ptr h0 h1 =>
        rename_i k i
        obtain ⟨h2, h3⟩ := hvar i k h1
        obtain ⟨_, hpv⟩ := hrv
        exact ⟨h2, by rw [h3]; exact hpv⟩
      | fn h0 h1 h2 =>
        rename_i f caps ks
        obtain ⟨_, hfn⟩ := hrv
        refine ⟨fun i hi => ?_, ?_⟩
        · obtain ⟨n, hn⟩ := List.mem_iff_getElem?.1 hi
          obtain ⟨vv, _, h4⟩ := h2 n i hn
          exact (hvar i vv h4).1
        · rw [hfn]; congr 2
          apply List.ext_getElem?
          intro n
          simp only [List.getElem?_map]
          cases hn : ks[n]? with
          | none =>
            have : caps[n]? = none := by
              apply List.getElem?_eq_none
              rw [← h1]
              exact Nat.not_lt.1 fun hlt => by rw [List.getElem?_eq_getElem hlt] at hn; cases hn
            rw [this]; rfl
          | some i =>
            obtain ⟨vv, h3, h4⟩ := h2 n i hn
            rw [h3]
            simp only [Option.map_some]
            rw [(hvar i vv h4).2]
      | io h0 h1 h2 h3 =>
        rename_i r τ xs
        show RelC _ _ (.sw (200000 + P * 64)) u
        refine ⟨entry_has (.inl ⟨P, _, hy, .inr ⟨τ, xs, rfl, rfl, rfl⟩⟩), ?_⟩
        show u = c.rv γ w args (200000 + P * 64)
        rw [c.rv_io γ w args P hP, hgu]
      | al h0 h8 h1 h2 h3 =>
        rename_i r vv cc cs
        show RelC _ _ (.sw (300000 + 0 * 64 + cc)) u
        obtain ⟨cs', l, hcs, hct, hl, h63⟩ := hvi.2 0 vv h1
        rw [h2] at hcs; cases hcs
        have hcl := (cts_get hct).1
        have hccl : cc < cs.length := (List.getElem?_eq_some_iff.1 h3).1
        have hl2 : l[cc]? = some (l[cc]'(by omega)) := List.getElem?_eq_getElem (by omega)
        obtain ⟨c3, hc3, hct3⟩ := (cts_get hct).2 cc _ hl2
        rw [h3] at hc3; cases hc3
        obtain ⟨_, cur, e, hcur, hrl⟩ := h.rel.vs _ cs (h.le.v _ _ h2)
        obtain ⟨uv, huv, hrc⟩ := hrl.get h3
        have hrr : u = γ.rv r := hrv.2
        have hru : uv = γ.rv r := hrc.2
        obtain ⟨row, hrow⟩ : ∃ row, c.m.r r = some row := by
          simp only [Lk.ct, Lk.vw] at hct3
          cases hr : c.m.r r with
          | none => simp [hr, Vw.ct] at hct3
          | some row => exact ⟨row, rfl⟩
        have hlt : l[cc]'(by omega) = .l row.τ row.xs := by
          simp only [Lk.ct, Lk.vw, hrow, Vw.ct, Option.some.injEq] at hct3; exact hct3.symm
        refine ⟨entry_has (.inr ⟨0, l, cc, row.τ, row.xs, hl, by rw [hl2, hlt], rfl, rfl⟩), ?_⟩
        show u = c.rv γ w args (300000 + 0 * 64 + cc)
        rw [c.rv_var γ w args 0 cc _ (by omega) h1 hcur, hrr, ← hru]; simp only [List.getD, huv]; rfl
      | val h1 h2 h3 h4 =>
        rename_i cs ys ys'
        have hcell : ∀ (j : Nat) (y' : Ct), ys'[j]? = some y' → ∃ (cc : Cv) (y : Ct), cs[j]? = some cc ∧ c.m.ct cc = some y ∧ (y' = y ∨ y' = hideC y) := by
          intro j y' hj
          have main : ∀ (y0 : Ct), ys[j]? = some y0 → ∃ cc, cs[j]? = some cc ∧ c.m.ct cc = some y0 := fun y0 h => (cts_get h3).2 j y0 h
          rcases h4 with ⟨_, rfl, _⟩ | ⟨_, rfl⟩ | ⟨_, rfl, _⟩
          · obtain ⟨cc, a, b⟩ := main _ hj; exact ⟨cc, _, a, b, .inl rfl⟩
          · rw [List.getElem?_map] at hj
            cases hyj : ys[j]? with
            | none => rw [hyj] at hj; cases hj
            | some y0 =>
              rw [hyj] at hj; simp only [Option.map_some, Option.some.injEq] at hj
              obtain ⟨cc, a, b⟩ := main _ hyj; exact ⟨cc, y0, a, b, .inr hj.symm⟩
          · obtain ⟨cc, a, b⟩ := main _ hj; exact ⟨cc, _, a, b, .inl rfl⟩
        have hlen : ys'.length = cs.length := by
          have := (cts_get h3).1
          rcases h4 with ⟨_, rfl, _⟩ | ⟨_, rfl⟩ | ⟨_, rfl, _⟩
          · exact this
          · simpa using this
          · exact this
        have hacl : acl y = ys' := by rcases h1 with ⟨_, rfl⟩ | ⟨_, _, _, rfl, _, rfl⟩ <;> rfl
        have one : ∀ (j : Nat) (cc : Cv) (y y' : Ct) (uv : Value), cs[j]? = some cc → c.m.ct cc = some y → ys'[j]? = some y' → (y' = y ∨ y' = hideC y) → RelC S.lk γ cc uv → cellAt u j = uv →
            RelC (entry c.g c.ar.acs c.vin).lk (c.gh X γ w args) (entCell (100000 + P * 64 + j) y') uv := by
          intro j cc y0 y' uv hc hct hyj hyy hrc hca
          have hjl : j < 64 := by have := (List.getElem?_eq_some_iff.1 hc).1; omega
          refine entCell_rel h.rel hrc hct hyy fun τ xs e1 => ⟨entry_has (.inl ⟨P, y, hy, .inl ⟨j, τ, xs, by rw [hacl, hyj, e1], rfl, rfl⟩⟩), ?_⟩
          show uv = c.rv γ w args (100000 + P * 64 + j)
          rw [c.rv_arg γ w args P j hjl hP, hgu, hca]
        rcases h1 with ⟨rfl, rfl⟩ | ⟨c1, y1, rfl, rfl, rfl, rfl⟩
        · obtain ⟨us, rfl, hrl⟩ := hrv
          refine ⟨us, rfl, RelL.of_get (by rw [entC_length, hlen]; exact hrl.length) fun j x uv hxj huv => ?_⟩
          rw [entC_get] at hxj
          cases hyj : ys'[j]? with
          | none => rw [hyj] at hxj; cases hxj
          | some y' =>
            rw [hyj] at hxj; simp only [Option.map_some, Option.some.injEq, Nat.add_zero] at hxj; subst hxj
            obtain ⟨cc, y0, hc, hct, hyy⟩ := hcell j y' hyj
            obtain ⟨uv', huv', hrc⟩ := hrl.get hc
            rw [huv] at huv'; cases huv'
            exact one j cc y0 y' uv hc hct hyj hyy hrc (by simp [cellAt, Value.cells, List.getD, huv])
        · obtain ⟨cc, y0, hc, hct, hyy⟩ := hcell 0 y1 rfl
          simp only [List.getElem?_cons_zero, Option.some.injEq] at hc; subst hc
          by_cases hun : c1 = .un
          · subst hun
            simp only [Lk.ct, Option.some.injEq] at hct; subst hct
            have : y1 = .u := by rcases hyy with h | h <;> simpa [hideC] using h
            subst this; exact trivial
          · have hrc := RelA.to hrv hun
            have h1c := one_cells (hrc.one h.rel)
            exact RelA.of (one 0 c1 y0 y1 u rfl hct rfl hyy hrc (by simp [cellAt, h1c]))

end Go.Soft
