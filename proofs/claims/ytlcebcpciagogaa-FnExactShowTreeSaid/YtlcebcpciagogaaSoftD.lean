/-
  SoftD: one operation that changes nothing.
-/
import Derived.Test.YtlcebcpciagogaaSoftC
set_option linter.constructorNameAsVariable false
set_option linter.unusedSimpArgs false
set_option linter.unusedVariables false
namespace Go.Soft
open Go
variable {X : Ctx} {m M : Lk} {γ : Gh} {w : World} {ρ : Operand → Value}

/-- what an operation that changes nothing comes to -/
def Pure (X : Ctx) (M : Lk) (γ : Gh) (w : World) (ρ : Operand → Value) (o : Oper) (v : AV) : Prop :=
  ∃ u, (Go.execOp ρ o).run X.P w = .ok (.value u) w ∧ RelA M γ v u

theorem Pure.of {o : Oper} {v : AV} {s : Sem Value} (he : Go.execOp ρ o = (do let x ← s; pure (.value x))) (h : ∃ u, s.run X.P w = .ok u w ∧ RelA M γ v u) : Pure X M γ w ρ o v := by
  obtain ⟨u, hu, hr⟩ := h
  exact ⟨u, by rw [he, Sem.run_bind, hu]; rfl, hr⟩

theorem hasOut_r {c : Bool} {v v' : AV} (h : Good (.r c v') v) : c = true ∧ v' = v := by
  simpa [Good] using h
theorem hasOut_r0 {v v' : AV} (h : Good (.r0 v') v) : v' = v := by
  simpa [Good] using h
theorem not_no {v : AV} (h : Good .no v) : False := by simp [Good] at h

theorem bin_step (hX : CtxOk X) {op : BinOp} {t : TypeId} {x y : AV} {xo yo : Operand} {xv yv : Value} {v : AV} (hx : RelA M γ x xv) (hy : RelA M γ y yv)
    (h : Good (X.binT op t x y) v) :
    ∃ u, (do eqGuard op t xo yo xv yv; Go.binOp op t xv yv : Sem Value).run X.P w = .ok u w ∧ RelA M γ v u := by
  cases x with
  | c x =>
    cases x with
    | b a =>
      have hx : xv = .bool a := hx
      subst hx
      simp only [Ctx.binT] at h
      cases ht : X.P.underlying t with
      | none => simp [ht, Good] at h
      | some d => cases d <;> first | exact bool_ok ht hy (by simpa [ht] using h) | (simp [ht, Good] at h)
    | i k a =>
      have hx : xv = .int k a := hx
      subst hx
      simp only [Ctx.binT] at h
      cases y with
      | c y =>
        cases y with
        | i k' b =>
          have hy : yv = .int k' b := hy
          subst hy
          cases hk : kEq k k' with
          | true => have := kEq_eq hk; subst this; exact int_ok h
          | false => exact shift_ok hk h
        | _ => simp [binO, Good] at h
      | _ => simp [binO, Good] at h
    | s a =>
      have hx : xv = .string a := hx
      subst hx
      simp only [Ctx.binT] at h
      cases y with
      | c y =>
        cases y with
        | s b => have hy : yv = .string b := hy; subst hy; exact str_ok h
        | _ => simp [binO, Good] at h
      | _ => simp [binO, Good] at h
    | _ => simp [Ctx.binT, binO, Good] at h
  | a l =>
    simp only [Ctx.binT] at h
    cases ht : hasN t X.eqs with
    | true => exact agg_ok hX ht hx hy (by simpa [ht] using h)
    | false => simp [ht, Good] at h
  | _ => simp [Ctx.binT, binO, Good] at h

theorem int_inv {x : AV} {v : Value} {n : Int} (hx : RelA M γ x v) (h : x.int = some n) : ∃ k, v = .int k n := by
  cases x with
  | c y => cases y <;> simp [AV.int] at h; subst h; exact ⟨_, hx⟩
  | _ => simp [AV.int] at h

theorem byte_cells (xs : List UInt8) : fcells .byte xs = xs.map (Value.int .u8 ∘ fun x => (x.toNat : Int)) := by
  induction xs with
  | nil => rfl
  | cons x xs ih => simp only [fcells, List.flatMap_cons] at ih ⊢; rw [ih]; rfl
theorem byte_fold (xs : List UInt8) : (xs.map fun x => (x.toNat : Int)).foldl (fun r n => r.push (UInt8.ofNat n.toNat)) ByteArray.empty = ⟨xs.toArray⟩ := by
  have : ∀ (xs : List UInt8) (acc : List UInt8), (xs.map fun x => (x.toNat : Int)).foldl (fun (r : ByteArray) n => r.push (UInt8.ofNat n.toNat)) ⟨acc.toArray⟩ = ⟨(acc ++ xs).toArray⟩ := by
    intro xs
    induction xs with
    | nil => intro acc; simp
    | cons x xs ih =>
      intro acc
      have h1 : (ByteArray.push ⟨acc.toArray⟩ (UInt8.ofNat ((x.toNat : Int)).toNat)) = ⟨(acc ++ [x]).toArray⟩ := by
        simp [ByteArray.push]
      rw [List.map_cons, List.foldl_cons, h1, ih]
      simp
  exact this xs []
theorem bytes_ok (hm : Le m M) (hR : Rel X M γ w) {a : Cv} {av : Value} (ha : RelC M γ a av) {xs : List UInt8} (h : bytesOf (m.vw a) = some xs) :
    (Conv.bytesToString av).run X.P w = .ok (.string ⟨xs.toArray⟩) w := by
  have hct : (m.vw a).ct = some (.l .byte xs) := by
    revert h; cases hv : m.vw a with
    | no => simp [bytesOf]
    | w τ ys => cases τ <;> simp [bytesOf, Vw.ct]
    | p τ ys off len => cases τ <;> simp [bytesOf, Vw.ct]
  obtain ⟨⟨cs, hvis⟩, _⟩ := vw_vis hm hR ha hct
  have hfl := hvis.flat rfl
  rcases hvis.top.2 with ⟨rfl, h0⟩ | ⟨g, o, cap, cur, e, fz, rfl, hg, _, _, hsz, ht⟩
  · cases xs with
    | nil => rfl
    | cons => simp at h0
  · have hcs : cs = (xs.map fun x => (x.toNat : Int)).map (Value.int .u8) := by
      rw [hfl, List.map_map]; exact byte_cells xs
    have hload := run_loadCells_list (P := X.P) w ⟨g, o, none⟩ cs (fun j v hj => by rw [Addr_add]; exact hvis.top.cell rfl hj)
    have hl : cs.length = xs.length := by rw [hcs]; simp
    rw [hl] at hload
    rw [run_bytesToString w ⟨g, o, none⟩ xs.length cap _ (hcs ▸ hload)]
    congr 2
    exact byte_fold xs

theorem conv_ok (hm : Le m M) (hR : Rel X M γ w) {t u : TypeId} {x : AV} {xv : Value} {v : AV} (hx : RelA M γ x xv) (h : Good (X.convO m t u x) v) :
    ∃ y, (convert t u xv).run X.P w = .ok y w ∧ RelA M γ v y := by
  simp only [Ctx.convO] at h
  revert h; split
  · rename_i _ _ _ dt k k' n ht hu
    intro h; have := hasOut_r0 h; subst this
    have hx : xv = .int _ _ := hx
    subst hx
    exact ⟨_, conv_int_ok (du := dt) ht hu, rfl⟩
  · rename_i _ _ _ e a ht hu
    split
    · rename_i xs hb he
      intro h; have := hasOut_r0 h; subst this
      have hr := RelA.to hx (by rintro rfl; simp [Lk.vw, bytesOf] at hb)
      obtain ⟨n, hlen⟩ : ∃ n, (m.vw a).len = some n := by
        revert hb; cases m.vw a with
        | no => simp [bytesOf]
        | w τ ys => exact fun _ => ⟨_, rfl⟩
        | p τ ys off len => exact fun _ => ⟨_, rfl⟩
      obtain ⟨a', cap, rfl⟩ := (vw_slcV hm hR hr hlen).slice
      refine ⟨_, ?_, rfl⟩
      rw [run_convert_bytes_string w t u e _ _ _ ht he hu]
      exact bytes_ok hm hR hr hb
    · exact fun h => (not_no h).elim
  · exact fun h => (not_no h).elim

theorem caps_ok {f : Operand → AV} (hf : ∀ o, RelA M γ (f o) (ρ o)) : ∀ (l : List Operand) (vs : List Nat), capsOf f l = some vs →
    l.map ρ = vs.map (fun k => Value.pointer (some ⟨γ.vb k, 0, none⟩)) ∧ ∀ k ∈ vs, ∃ cs, M.v k = some cs
  | [], vs, h => by simp only [capsOf, Option.some.injEq] at h; subst h; simp
  | o :: l, vs, h => by
    simp only [capsOf] at h
    revert h; split
    · rename_i v r hv hr
      intro h; cases h
      obtain ⟨h1, h2⟩ := caps_ok hf l r hr
      have := hf o; rw [hv] at this
      obtain ⟨h3, h4⟩ := this
      simp [h1, h4, h3]
      exact h2
    · simp

theorem run_max2 {k : IntKind} (a b : Int) : (Builtin.max2 (.int k a) (.int k b)).run X.P w = .ok (.int k (max a b)) w := by
  simp only [Builtin.max2]
  show Result.ok _ _ = _
  congr 2; split <;> omega
theorem run_min2 {k : IntKind} (a b : Int) : (Builtin.min2 (.int k a) (.int k b)).run X.P w = .ok (.int k (min a b)) w := by
  simp only [Builtin.min2]
  show Result.ok _ _ = _
  congr 2; split <;> omega

theorem optI_ok {f : Operand → AV} (hf : ∀ o, RelA M γ (f o) (ρ o)) {lo : Option Operand} {l : Option Int} (h : optI f lo = some l) : ∃ k, lo.map ρ = l.map (Value.int k) := by
  cases lo with
  | none => simp only [optI, Option.some.injEq] at h; subst h; exact ⟨.i64, rfl⟩
  | some o =>
    simp only [optI] at h
    cases hi : (f o).int with
    | none => simp [hi] at h
    | some n =>
      simp only [hi, Option.some.injEq] at h; subst h
      obtain ⟨k, hk⟩ := int_inv (hf o) hi
      exact ⟨k, by simp [hk]⟩

theorem app_not {m : Lk} {τ : Ty} {d : Nat} {x y : Cv} {v : AV} : ¬ Good (m.append τ d x y) v := by
  intro h
  simp only [Lk.append] at h
  repeat' (first | (split at h) | (simp [Good] at h; done))
theorem store_not {m : Lk} {x : Cv} {l : List Cv} {v : AV} : ¬ Good (m.store x l) v := by
  intro h
  simp only [Lk.store] at h
  repeat' (first | (split at h) | (simp [Good] at h; done))

theorem mm_inv {f : Int → Int → Int} {x y : AV} {xv yv : Value} {v : AV} (hx : RelA M γ x xv) (hy : RelA M γ y yv) (h : Good (mmO f x y) v) :
    ∃ k a b, xv = .int k a ∧ yv = .int k b ∧ v = .c (.i k (f a b)) := by
  revert h; simp only [mmO]; split
  · rename_i k a k' b
    split
    · rename_i hk
      have hk := kEq_eq hk; subst hk
      exact fun h => ⟨k, a, b, hx, hy, (hasOut_r0 h).symm⟩
    · exact fun h => (not_no h).elim
  · exact fun h => (not_no h).elim

theorem len_ok (hm : Le m M) (hR : Rel X M γ w) {t ty : TypeId} {x : AV} {xv : Value} {v : AV} (hx : RelA M γ x xv) (h : Good (X.lenO m t x) v) :
    ∃ u, (Builtin.len_ #[t] ty #[xv]).run X.P w = .ok u w ∧ RelA M γ v u := by
  have gen : ∀ a, RelC M γ a xv → Good (lenN (isSlc X.P t) (m.vw a).len) v → ∃ u, (Builtin.len_ #[t] ty #[xv]).run X.P w = .ok u w ∧ RelA M γ v u := by
    intro a hr h
    cases hl : (m.vw a).len with
    | none => simp [hl, lenN, Good] at h
    | some n =>
      rw [hl] at h
      cases hs : isSlc X.P t with
      | false => rw [hs] at h; exact (not_no h).elim
      | true =>
        rw [hs] at h
        have := hasOut_r0 h; subst this
        obtain ⟨b, cap, rfl⟩ := (vw_slcV hm hR hr hl).slice
        exact ⟨_, len_slc hs, rfl⟩
  cases x with
  | c a =>
    cases a with
    | s a =>
      have hx : xv = .string a := hx
      subst hx
      cases hs : isStr X.P t with
      | false => simp [Ctx.lenO, hs, Good] at h
      | true =>
        simp only [Ctx.lenO, hs] at h
        have := hasOut_r0 h; subst this
        exact ⟨_, len_str hs, rfl⟩
    | un => simp [Ctx.lenO, Lk.vw, Vw.len, lenN, Good] at h
    | _ => exact gen _ hx h
  | _ => simp [Ctx.lenO, Good] at h

theorem pure_ok (hX : CtxOk X) (hm : Le m M) (hR : Rel X M γ w) {evp : List (Nat × Bool) → TypeId → Operand → AV} (hev : ∀ ty x, RelA M γ (evp [] ty x) (ρ x))
    (hpk : ∀ ty t x a b, evp [] ty (.tmp t) = .c (.b x) → (x = true → RelA M γ (evp [(t, true)] ty a) (ρ a)) ∧ (x = false → RelA M γ (evp [(t, false)] ty b) (ρ b)))
    {d : Nat} {o : Oper} {v : AV} (h : Good (stepO X evp m d o.type o.op) v) : Pure X M γ w ρ o v := by
  obtain ⟨dst, op, type, pos, aft, guard⟩ := o
  simp only at h
  cases op with
  | move x =>
    simp only [stepO] at h; have := hasOut_r0 h; subst this
    exact ⟨_, rfl, hev _ _⟩
  | assign x =>
    simp only [stepO] at h; have := hasOut_r0 h; subst this
    exact ⟨_, rfl, hev _ _⟩
  | pick c a b =>
    cases c with
    | tmp t =>
      simp only [stepO] at h
      cases hc : evp [] type (.tmp t) with
      | c y =>
        cases y with
        | b x =>
          simp only [hc] at h
          have := hasOut_r0 h; subst this
          have hb := hev type (.tmp t); rw [hc] at hb
          have hb : ρ (.tmp t) = .bool x := hb
          obtain ⟨h1, h2⟩ := hpk type t x a b hc
          refine ⟨bif x then ρ a else ρ b, by simp only [Go.execOp, Sem.run_bind, hb, asBool, Sem.run_pure, Result.andThen_ok]; cases x <;> rfl, ?_⟩
          cases hu : evp [(t, true)] type a with
          | c u =>
            cases u with
            | b p =>
              cases hv : evp [(t, false)] type b with
              | c v =>
                cases v with
                | b q =>
                  rw [hu] at h1; rw [hv] at h2
                  cases x with
                  | true => exact h1 rfl
                  | false => exact h2 rfl
                | _ => exact trivial
              | _ => exact trivial
            | _ => exact trivial
          | _ => exact trivial
        | _ => simp [hc, Good] at h
      | _ => simp [hc, Good] at h
    | _ => simp [stepO, Good] at h
  | build t parts =>
    simp only [stepO] at h
    cases hz : X.zero t with
    | none => simp [hz, Good] at h
    | some zs =>
      cases hp : plOk X.P t with
      | false => simp [hz, hp, Good] at h
      | true =>
        cases hf : fillP X t (evp [] type) parts.toList zs with
        | none => simp [hz, hp, hf, Good] at h
        | some cs =>
          simp only [hz, hp, hf] at h
          have := hasOut_r0 h; subst this
          exact Pure.of rfl (build_ok hR (hev type) hz hp hf)
  | load t x =>
    simp only [stepO] at h
    cases hx : evp [] type x with
    | c a =>
      simp only [hx] at h
      cases hfr : m.from a with
      | none => simp [hfr, Good] at h
      | some cs =>
        simp only [hfr] at h
        cases hz : Nat.ble (szOf X.P t) cs.length && ldOk X.P t with
        | false => simp [hz, Good] at h
        | true =>
          simp only [hz] at h
          have := hasOut_r0 h; subst this
          simp only [Bool.and_eq_true] at hz
          have hr := hev type x; rw [hx] at hr
          exact Pure.of rfl (load_ok hm hR (RelA.to hr (by rintro rfl; simp [Lk.from] at hfr)) hfr hz.1 hz.2)
    | _ => simp [hx, Good] at h
  | nilCheck x =>
    simp only [stepO] at h
    have hr := hev type x
    cases hx : evp [] type x with
    | c a =>
      rw [hx] at hr
      simp only [hx] at h
      cases a with
      | pv k c =>
        have := hasOut_r0 h; subst this
        obtain ⟨h1, h2⟩ := hr
        exact ⟨ρ x, by simp only [Go.execOp, h2]; rfl, h1, h2⟩
      | pe r e c =>
        have := hasOut_r0 h; subst this
        have hr' := hr
        obtain ⟨row, h1, h2, g, oo, n, cap, h3, h4⟩ := hr
        exact ⟨ρ x, by simp only [Go.execOp, h4]; rfl, hr'⟩
      | pn r e c k d =>
        have := hasOut_r0 h; subst this
        have hr' := hr
        obtain ⟨row, τ, ys, u, h1, h2, h3, h4, h5, g, oo, n, cap, h6, h7⟩ := hr
        exact ⟨ρ x, by simp only [Go.execOp, h7]; rfl, hr'⟩
      | _ => simp [Good] at h
    | _ => simp [hx, Good] at h
  | binOp op t x y c =>
    simp only [stepO] at h
    exact Pure.of rfl (bin_step hX (hev t x) (hev t y) h)
  | unOp op t x =>
    simp only [stepO] at h
    exact Pure.of rfl (unOp_ok (hev t x) h)
  | convert t u x =>
    simp only [stepO] at h
    exact Pure.of rfl (conv_ok hm hR (hev t x) h)
  | makeFunc fn first caps =>
    cases fn with
    | func f =>
      simp only [stepO] at h
      cases hs : first.size with
      | succ n => simp [hs, Good] at h
      | zero =>
        cases hc : capsOf (evp [] type) caps.toList with
        | none => simp [hs, hc, Good] at h
        | some vs =>
          simp only [hs, hc] at h
          have := hasOut_r0 h; subst this
          obtain ⟨h1, h2⟩ := caps_ok (hev type) _ _ hc
          have h0 : first = #[] := Array.eq_empty_of_size_eq_zero hs
          subst h0
          refine Pure.of rfl ⟨_, rfl, h2, ?_⟩
          have e : caps.map ρ = (vs.map fun k => Value.pointer (some ⟨γ.vb k, 0, none⟩)).toArray := by
            rw [← h1]
            apply Array.toList_inj.1
            rw [Array.toList_map]
          rw [e]; first | rfl | simp | (congr 1)
    | _ => simp [stepO, Good] at h
  | slice t x lo hi mx =>
    simp only [stepO] at h
    cases mx with
    | some _ => simp [Good] at h
    | none =>
      cases hl : optI (evp [] type) lo with
      | none => simp [hl, Good] at h
      | some l =>
        cases hh : optI (evp [] type) hi with
        | none => simp [hl, hh, Good] at h
        | some hb =>
          simp only [hl, hh] at h
          cases hc : m.cutOk X.P t (evp [] t x) with
          | false => simp [hc, Good] at h
          | true =>
            simp only [hc] at h
            obtain ⟨k1, e1⟩ := optI_ok (hev type) hl
            obtain ⟨k2, e2⟩ := optI_ok (hev type) hh
            obtain ⟨u, hu, hr⟩ := slice_ok hm hR (hev t x) (kl := k1) (kh := k2) hc h
            exact Pure.of rfl ⟨u, by rw [e1, e2]; exact hu, hr⟩
  | fieldAddr t x f =>
    simp only [stepO] at h
    cases hx : evp [] type x with
    | c a =>
      cases hf : fOff X.P t f with
      | none => simp [hx, hf, Good] at h
      | some n =>
        cases hz : Nat.beq (szOf X.P (fTy X.P t f)) 0 with
        | true => simp only [hx, hf, hz] at h; exact (not_no h).elim
        | false =>
          simp only [hx, hf, hz] at h
          have hr := hev type x; rw [hx] at hr
          have hun : addO a n ≠ .un := by intro e; rw [e] at h; exact (not_no h).elim
          have hv : v = .c (addO a n) := by
            revert h; split
            · exact fun h => (not_no h).elim
            · exact fun h => (hasOut_r0 h).symm
          subst hv
          obtain ⟨u, hu, hr'⟩ := field_ok (RelA.to hr (by rintro rfl; simp [addO] at hun)) hf hz hun
          exact Pure.of rfl ⟨u, hu, RelA.of hr'⟩
    | _ => simp [hx, Good] at h
  | field t x f =>
    simp only [stepO] at h
    cases hx : evp [] t x with
    | a l =>
      cases hf : fOff X.P t f with
      | none => simp [hx, hf, Good] at h
      | some n =>
        simp only [hx, hf] at h
        cases hz : Nat.ble (n + szOf X.P (fTy X.P t f)) l.length && ldOk X.P (fTy X.P t f) with
        | false => simp [hz, Good] at h
        | true =>
          simp only [hz] at h
          have := hasOut_r0 h; subst this
          simp only [Bool.and_eq_true] at hz
          have hr := hev t x; rw [hx] at hr
          exact Pure.of rfl (field_val hr hf hz.1 hz.2)
    | _ => simp [hx, Good] at h
  | indexAddr t x i =>
    simp only [stepO] at h
    cases hx : evp [] t x with
    | c a =>
      cases hi : (evp [] type i).int with
      | none => simp [hx, hi, Good] at h
      | some n =>
        simp only [hx, hi] at h
        obtain ⟨k, hk⟩ := int_inv (hev type i) hi
        have hr := hev t x; rw [hx] at hr
        obtain ⟨u, hu, hr'⟩ := index_ok hm hR (k := k) (RelA.to hr (by rintro rfl; simp [Lk.indexA, Good] at h)) h
        exact Pure.of rfl ⟨u, by rw [hk]; exact hu, hr'⟩
    | _ => simp [hx, Good] at h
  | index t x i =>
    simp only [stepO] at h
    cases hx : evp [] t x with
    | c a =>
      cases a with
      | s a =>
        cases hi : (evp [] type i).int with
        | none => simp [hx, hi, Good] at h
        | some n =>
          simp only [hx, hi] at h
          cases hs : isStr X.P t with
          | false => simp [hs, Good] at h
          | true =>
            simp only [hs] at h
            obtain ⟨h1, rfl⟩ := hasOut_r h
            obtain ⟨k, hk⟩ := int_inv (hev type i) hi
            have hr := hev t x; rw [hx] at hr
            have hr : ρ x = .string a := hr
            exact Pure.of rfl ⟨_, by rw [hk, hr]; exact index_str hs h1, rfl⟩
      | _ => simp [hx, Good] at h
    | _ => simp [hx, Good] at h
  | extract x i =>
    simp only [stepO] at h
    cases hx : evp [] type x with
    | t l =>
      simp only [hx] at h
      cases hn : nth l i with
      | none => simp [hn, Good] at h
      | some p =>
        obtain ⟨b, cs⟩ := p
        simp only [hn] at h
        have := hasOut_r0 h; subst this
        have hr := hev type x; rw [hx] at hr
        exact Pure.of rfl (extract_ok hr hn)
    | _ => simp [hx, Good] at h
  | call c =>
    obtain ⟨callee, args, argTypes⟩ := c
    cases callee with
    | builtin b =>
      simp only [stepO] at h
      revert h; split
      · rename_i x t ha ht
        intro h
        have ha' : args = #[x] := Array.toList_inj.1 ha
        have ht' : argTypes = #[t] := Array.toList_inj.1 ht
        subst ha'; subst ht'
        obtain ⟨u, hu, hr⟩ := len_ok (ty := type) hm hR (hev t x) h
        refine ⟨u, ?_, hr⟩
        simp only [Go.execOp, resolve, invoke, Sem.run_bind, Sem.run_pure, Result.andThen_ok, builtin, List.map_toArray, List.map, hu]
      · intro h
        exfalso
        revert h; simp only [Ctx.appO]; split
        · exact app_not
        · exact not_no
      · intro h
        exfalso
        revert h; simp only [Ctx.clearO]; split
        · split
          · split
            · simp [Good]
            · exact not_no
          · exact not_no
        · exact not_no
      · rename_i tys x y ha
        intro h
        have ha' : args = #[x, y] := Array.toList_inj.1 ha
        subst ha'
        obtain ⟨k, a, b, e1, e2, rfl⟩ := mm_inv (hev type x) (hev type y) h
        refine ⟨_, ?_, rfl⟩
        simp only [Go.execOp, resolve, invoke, Sem.run_bind, Sem.run_pure, Result.andThen_ok, builtin, List.map_toArray, List.map, e1, e2, Builtin.max_]
        show (Result.andThen (Sem.run X.P (List.foldlM Builtin.max2 (.int k a) [.int k b]) w) _) = _
        simp only [List.foldlM, Sem.run_bind, run_max2, Result.andThen_ok, Sem.run_pure]
      · rename_i tys x y ha
        intro h
        have ha' : args = #[x, y] := Array.toList_inj.1 ha
        subst ha'
        obtain ⟨k, a, b, e1, e2, rfl⟩ := mm_inv (hev type x) (hev type y) h
        refine ⟨_, ?_, rfl⟩
        simp only [Go.execOp, resolve, invoke, Sem.run_bind, Sem.run_pure, Result.andThen_ok, builtin, List.map_toArray, List.map, e1, e2, Builtin.min_]
        show (Result.andThen (Sem.run X.P (List.foldlM Builtin.min2 (.int k a) [.int k b]) w) _) = _
        simp only [List.foldlM, Sem.run_bind, run_min2, Result.andThen_ok, Sem.run_pure]
      · exact fun h => (not_no h).elim
    | value f => simp [stepO, Good] at h
    | invoke r n => simp [stepO, Good] at h
  | alloc t => simp only [stepO] at h; revert h; split <;> simp [Good]
  | box t x => simp only [stepO] at h; revert h; split <;> (try split) <;> simp [Good]
  | store t x y => simp only [stepO] at h; revert h; split <;> (try split) <;> first | (exact fun h => (store_not h).elim) | simp [Good]
  | buildSlice t n ps =>
    exfalso; simp only [stepO] at h
    repeat' (first | (split at h) | (exact not_no h) | (simp [Good] at h; done))
  | makeSlice t n c =>
    exfalso; simp only [stepO] at h
    repeat' (first | (split at h) | (exact not_no h) | (simp [Good] at h; done))
  | _ => simp [stepO, Good] at h

end Go.Soft
