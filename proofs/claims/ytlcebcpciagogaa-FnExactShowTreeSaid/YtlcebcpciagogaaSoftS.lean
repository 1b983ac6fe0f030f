/-
  SoftS: what comes back from a call.
-/
import Derived.Test.YtlcebcpciagogaaSoftR
set_option linter.constructorNameAsVariable false
set_option linter.unusedSimpArgs false
set_option linter.unusedVariables false
namespace Go.Soft
open Go
variable {X : Ctx} {m M : Lk} {γ γ' : Gh} {w w' : World} {ρ : Operand → Value} {S : St} {δ : Dl}

/-- new rows: what they are where they come from -/
inductive NewRows (X : Ctx) (I : Prop) (A : Nat → Prop) (O : OM) (w : World) : List (Nat × Row) → List (Nat × (Value × List Value)) → List (Nat × (Nat × Nat)) → Prop
  | nil : NewRows X I A O w [] [] []
  | own {k1 k : Nat} {row : Row} {v : Value} {cs : List Value} {rs : List (Nat × Row)} {V : List (Nat × (Value × List Value))} {G : List (Nat × (Nat × Nat))} : RowR X O w k1 row v cs → (row.ow = 3 ∨ row.ow = 4 ∨ row.ow = 5) →
      NewRows X I A O w rs V G → NewRows X I A O w ((k, row) :: rs) ((k, (v, cs)) :: V) ((k1, (k, row.ow)) :: G)
  | emp {k d : Nat} {τ : Ty} {rs : List (Nat × Row)} {V : List (Nat × (Value × List Value))} {G : List (Nat × (Nat × Nat))} : NewRows X I A O w rs V G →
      NewRows X I A O w ((k, ⟨τ, [], d⟩) :: rs) ((k, (.slice none 0 0, [])) :: V) G
  | imm {k : Nat} {τ : Ty} {xs : List (El τ)} {v : Value} {cs : List Value} {rs : List (Nat × Row)} {V : List (Nat × (Value × List Value))} {G : List (Nat × (Nat × Nat))} : I → Vis A w τ xs v cs → NewRows X I A O w rs V G →
      NewRows X I A O w ((k, ⟨τ, xs, 1⟩) :: rs) ((k, (v, cs)) :: V) G

section
variable {I : Prop} {A : Nat → Prop} {O O' : OM} {rs rs' : List (Nat × Row)} {V V' : List (Nat × (Value × List Value))} {G G' : List (Nat × (Nat × Nat))}
theorem NewRows.keys (h : NewRows X I A O w rs V G) : keys V = keys rs := by
  induction h with
  | nil => rfl
  | own _ _ _ ih => simp [Soft.keys, ih]
  | emp _ ih => simp [Soft.keys, ih]
  | imm _ _ _ ih => simp [Soft.keys, ih]
theorem NewRows.append (h : NewRows X I A O w rs V G) (h' : NewRows X I A O w rs' V' G') : NewRows X I A O w (rs ++ rs') (V ++ V') (G ++ G') := by
  induction h with
  | nil => exact h'
  | own a b _ ih => exact .own a b ih
  | emp _ ih => exact .emp ih
  | imm a b _ ih => exact .imm a b ih
theorem NewRows.row (h : NewRows X I A O w rs V G) {a : Rb} (hG : ∀ p ∈ G, a.r p.1 = some p.2)
    (hown : ∀ g o r ow, w.heap[g]? = some o → (ow = 3 ∨ ow = 4 ∨ ow = 5) → InR r ow (O g) → O' g = (O g).bind a.f) (himm : I → ∀ g o, w.heap[g]? = some o → A g → In .bor (O' g)) :
    ∀ k row, lk rs k = some row → ∃ v cs, lk V k = some (v, cs) ∧ RowR X O' w k row v cs := by
  induction h with
  | nil => intro k row h; simp [lk] at h
  | own hr ho _ ih =>
    rename_i k1 k0 row0 v cs _ _ _ _
    intro k row h
    simp only [lk] at h ⊢
    cases hk : Nat.beq k0 k with
    | false => simp only [hk] at h ⊢; exact ih (fun p hp => hG p (List.mem_cons_of_mem _ hp)) k row h
    | true =>
      simp only [hk, Option.some.injEq] at h ⊢; subst h
      have := nat_beq hk; subst this
      refine ⟨v, cs, rfl, ?_⟩
      exact hr.relabel (a := a) (fun _ => hG _ List.mem_cons_self) (leK_self (by omega)) (fun g o hg hi => ⟨hg, hown g o k1 _ hg ho hi⟩)
  | emp _ ih =>
    rename_i k0 d τ _ _ _ _
    intro k row h
    simp only [lk] at h ⊢
    cases hk : Nat.beq k0 k with
    | false => simp only [hk] at h ⊢; exact ih hG k row h
    | true =>
      simp only [hk, Option.some.injEq] at h ⊢; subst h
      exact ⟨_, _, rfl, RowR.nil _ _ _ _ _ _⟩
  | imm hI hv _ ih =>
    rename_i k0 τ xs v cs _ _ _ _
    intro k row h
    simp only [lk] at h ⊢
    cases hk : Nat.beq k0 k with
    | false => simp only [hk] at h ⊢; exact ih hG k row h
    | true =>
      simp only [hk, Option.some.injEq] at h ⊢; subst h
      exact ⟨_, _, rfl, (hv.mono fun g o hg ha => ⟨hg, himm hI g o hg ha⟩).of_bor⟩
theorem NewRows.ow (h : NewRows X I A O w rs V G) : ∀ p ∈ rs, p.2.xs = [] ∨ p.2.ow = 3 ∨ p.2.ow = 4 ∨ p.2.ow = 5 ∨ (I ∧ p.2.ow = 1) := by
  induction h with
  | nil => simp
  | own _ ho _ ih => intro p hp; rcases List.mem_cons.1 hp with rfl | hp; exact .inr (ho.elim .inl fun h => h.elim (fun h => .inr (.inl h)) fun h => .inr (.inr (.inl h))); exact ih p hp
  | emp _ ih => intro p hp; rcases List.mem_cons.1 hp with rfl | hp; exact .inl rfl; exact ih p hp
  | imm hI _ _ ih => intro p hp; rcases List.mem_cons.1 hp with rfl | hp; exact .inr (.inr (.inr (.inr ⟨hI, rfl⟩))); exact ih p hp
end

/-- a state in which these rows are what they are -/
structure Fits (m' : Lk) (γ' : Gh) (rs : List (Nat × Row)) (V : List (Nat × (Value × List Value))) : Prop where
  r : ∀ k row, (k, row) ∈ rs → ∃ row, m'.r k = some row
  v : ∀ k v cs, (k, (v, cs)) ∈ V → γ'.rv k = v
theorem Fits.left {m' : Lk} {rs rs' : List (Nat × Row)} {V V' : List (Nat × (Value × List Value))} (h : Fits m' γ' (rs ++ rs') (V ++ V')) : Fits m' γ' rs V :=
  ⟨fun k row hm => h.r k row (List.mem_append_left _ hm), fun k v cs hm => h.v k v cs (List.mem_append_left _ hm)⟩
theorem Fits.right {m' : Lk} {rs rs' : List (Nat × Row)} {V V' : List (Nat × (Value × List Value))} (h : Fits m' γ' (rs ++ rs') (V ++ V')) : Fits m' γ' rs' V' :=
  ⟨fun k row hm => h.r k row (List.mem_append_right _ hm), fun k v cs hm => h.v k v cs (List.mem_append_right _ hm)⟩
theorem Fits.tail {m' : Lk} {p : Nat × Row} {q : Nat × (Value × List Value)} {rs : List (Nat × Row)} {V : List (Nat × (Value × List Value))} (h : Fits m' γ' (p :: rs) (q :: V)) : Fits m' γ' rs V :=
  ⟨fun k row hm => h.r k row (List.mem_cons_of_mem _ hm), fun k v cs hm => h.v k v cs (List.mem_cons_of_mem _ hm)⟩
theorem Fits.head {m' : Lk} {k : Nat} {row : Row} {v : Value} {cs : List Value} {rs : List (Nat × Row)} {V : List (Nat × (Value × List Value))} (h : Fits m' γ' ((k, row) :: rs) ((k, (v, cs)) :: V)) : RelC m' γ' (.sw k) v :=
  ⟨h.r k row List.mem_cons_self, (h.v k v cs List.mem_cons_self).symm⟩

/-- what an argument's cell was -/
theorem CallI.Ent.argc {c : CallI} {args : List Value} (h : c.Ent X S γ w args) {p j : Nat} (hj : j < 64) (hlt : 100000 + p * 64 + j < 200000) {row : Row} (hr : (entry c.g c.ar.acs c.vin).lk.r (100000 + p * 64 + j) = some row) :
    ∃ cc, argC c.avs p j = some cc ∧ RelC S.lk γ cc (c.rv γ w args (100000 + p * 64 + j)) ∧ c.m.ct cc = some (.l row.τ row.xs) := by
  rcases entry_r hr with ⟨P, x, hx, hA⟩ | ⟨k, l, j', τ, xs, hl, hj', hk, _⟩
  · obtain ⟨v, u, hv, hu, hgu, hrv, hP, hA2⟩ := h.arg hx
    rcases hA with ⟨j', τ, xs, hj', hk, rfl⟩ | ⟨τ, xs, rfl, hk, rfl⟩
    · cases hA2 with
      | val h1 h2 h3 h4 =>
        rename_i cs ys ys'
        have hacl : acl x = ys' := by rcases h1 with ⟨_, rfl⟩ | ⟨_, _, _, rfl, _, rfl⟩ <;> rfl
        rw [hacl] at hj'
        have hlen : ys.length = cs.length := (cts_get h3).1
        have hjl : j' < 64 := by
          have h5 := (List.getElem?_eq_some_iff.1 hj').1
          rcases h4 with ⟨_, rfl, _⟩ | ⟨_, rfl⟩ | ⟨_, rfl, _⟩
          · omega
          · simp at h5; omega
          · omega
        obtain ⟨rfl, rfl⟩ : p = P ∧ j = j' := by omega
        have hys : ys[j]? = some (.l τ xs) := by
          rcases h4 with ⟨_, rfl, _⟩ | ⟨_, rfl⟩ | ⟨_, rfl, _⟩
          · exact hj'
          · rw [List.getElem?_map] at hj'
            cases hy : ys[j]? with
            | none => rw [hy] at hj'; cases hj'
            | some y => rw [hy] at hj'; cases y <;> simp [hideC] at hj'
          · exact hj'
        obtain ⟨cc, hc, hct⟩ := (cts_get h3).2 j _ hys
        rcases byv_rel h.rel h1 hrv with ⟨rfl, rfl⟩ | hrl
        · cases j <;> simp at hc; subst hc; simp [Lk.ct] at hct
        · obtain ⟨uv, huv, hrc⟩ := hrl.get hc
          refine ⟨cc, ?_, ?_, hct⟩
          · simp only [argC, nth_eq, hv]
            rcases h1 with ⟨rfl, _⟩ | ⟨c1, y1, rfl, _, rfl, _⟩
            · exact hc
            · cases j with
              | zero => exact hc
              | succ j => simp at hc
          · rw [c.rv_arg γ w args p j hj hP, hgu, show cellAt u j = uv by simp [cellAt, List.getD, huv]]
            exact hrc
      | _ => simp [acl] at hj'
    · omega
  · omega

theorem alias_ok {c : CallI} {args : List Value} (h : c.Ent X S γ w args) {K : List Nat} {O : OM} {w1 : World} {d : Nat} {y : Rc} {v : Value} {ks : List Nat}
    (hy : RelRc X (entry c.g c.ar.acs c.vin).lk (c.gh X γ w args) K O w1 d y v ks) {x : Cv} (hx : aliasC c.avs y = some x) : ks = [] ∧ RelC S.lk γ x v := by
  cases y with
  | c y => simp [aliasC] at hx
  | m y => simp [aliasC] at hx
  | un => simp only [aliasC, Option.some.injEq] at hx; subst hx; exact hy
  | aw p j =>
    obtain ⟨rfl, row, hj, hlt, hr, rfl⟩ := hy
    obtain ⟨cc, h1, h2, _⟩ := h.argc hj hlt hr
    simp only [aliasC] at hx
    rw [h1] at hx; cases hx
    exact ⟨rfl, h2⟩
  | al p j e cc =>
    obtain ⟨rfl, row, τ, ys, hj, hlt, hr, he, hc, hv⟩ := hy
    obtain ⟨c1, h1, h2, h3⟩ := h.argc hj hlt hr
    have hpre := h.pre.rel.rs _ row hr
    obtain ⟨u', hu', hcell⟩ := hpre.cel e cc _ he hc
    have hcv : (c.gh X γ w args).cv (100000 + p * 64 + j) = c.cv X γ w args (100000 + p * 64 + j) := rfl
    rw [hv] at hu'; cases hu'
    have hone : v.oneCell' = true := hcell.2.slF.slcV.one
    have hvw := ct_l_vw h3
    refine ⟨rfl, ?_⟩
    simp only [aliasC, h1] at hx
    cases c1 with
    | sw r =>
      simp only [Option.some.injEq] at hx; subst hx
      simp only [Lk.vw] at hvw
      cases hrr : c.m.r r with
      | none => simp [hrr, Vw.ct] at hvw
      | some row2 =>
        simp only [hrr, Vw.ct, Option.some.injEq, Ct.l.injEq] at hvw
        obtain ⟨e1, e2⟩ := hvw
        obtain ⟨τ1, xs1, ow1⟩ := row
        obtain ⟨τ2, xs2, ow2⟩ := row2
        simp only at e1 e2
        subst e1
        have e2 := eq_of_heq e2
        subst e2
        have hr2 := h.le.r r _ hrr
        have hval : c.rv γ w args (100000 + p * 64 + j) = γ.rv r := h2.2
        have htop := hpre.top.slF
        have htop2 := (h.rel.rs r _ hr2).top.slF
        have hcs : (c.gh X γ w args).cv (100000 + p * 64 + j) = γ.cv r := by
          have hrv' : (c.gh X γ w args).rv (100000 + p * 64 + j) = γ.rv r := hval
          rw [hrv'] at htop
          exact slF_uniq htop htop2
        exact ⟨_, τ, ys, hr2, he, hc, by rw [← hcs]; exact hv⟩
    | sl r off n =>
      simp only [Option.some.injEq] at hx; subst hx
      simp only [Lk.vw] at hvw
      cases hrr : c.m.r r with
      | none => simp [hrr, Vw.ct] at hvw
      | some row2 =>
        simp only [hrr, Vw.ct, Option.some.injEq, Ct.l.injEq] at hvw
        obtain ⟨e1, e2⟩ := hvw
        obtain ⟨τ1, xs1, ow1⟩ := row
        obtain ⟨τ2, xs2, ow2⟩ := row2
        simp only at e1 e2
        subst e1
        have e2 := eq_of_heq e2
        subst e2
        have hr2 := h.le.r r _ hrr
        obtain ⟨row', hr', hle, hsub⟩ := h2
        rw [hr2] at hr'; cases hr'
        have htop := hpre.top.slF
        have htop2 := (h.rel.rs r _ hr2).top.slF.sub hle hsub
        have hl := sub_length xs2 hle
        simp only at htop he hc hv htop2 hle
        rw [hl] at htop he
        have hcs : (c.gh X γ w args).cv (100000 + p * 64 + j) = ((γ.cv r).drop (off * sz τ2)).take (n * sz τ2) := slF_uniq htop htop2
        rw [hcs] at hv
        have hc1 : (cells τ2 ((sub xs2 off n).getD e (dflt τ2)))[cc]? = some (.l τ ys) := hc
        rw [sub_getD xs2 _ he] at hc1
        have hc' : cc < sz τ2 := by
          have := (List.getElem?_eq_some_iff.1 hc1).1
          rwa [cells_length] at this
        have hlt2 : e * sz τ2 + cc < n * sz τ2 := by
          have := Nat.mul_le_mul_right (sz τ2) (show e + 1 ≤ n from he)
          rw [Nat.add_mul] at this; omega
        rw [List.getElem?_take, if_pos hlt2, List.getElem?_drop] at hv
        refine ⟨_, τ, ys, hr2, by simp only; omega, hc1, ?_⟩
        show (γ.cv r)[(off + e) * sz τ2 + cc]? = some v
        rw [← hv]; congr 1; rw [Nat.add_mul]; omega
    | _ => simp only [Option.some.injEq] at hx; subst hx; exact hone

theorem rcsN_len : ∀ (l : List Rc), rcsN l = l.length
  | [] => rfl
  | _ :: l => by simp [rcsN, rcsN_len l]

theorem flatC_rel {m' : Lk} {y : Ct} {x : Cv} (h : flatC y = some x) {v : Value} (hv : (y = .u ∧ v.oneCell' = true) ∨ (y ≠ .u ∧ v = ctVal y)) : RelC m' γ' x v := by
  cases y with
  | l τ xs => simp [flatC] at h
  | u =>
    simp only [flatC, Option.some.injEq] at h; subst h
    rcases hv with ⟨_, h⟩ | ⟨h, _⟩
    · exact h
    · exact absurd rfl h
  | _ =>
    simp only [flatC, Option.some.injEq] at h; subst h
    rcases hv with ⟨h, _⟩ | ⟨_, h⟩
    · cases h
    · exact h

/-- what the results' cells come to -/
def ResOk (X : Ctx) (S : St) (γ : Gh) (I : Prop) (A : Nat → Prop) (O : OM) (w1 : World) (f : Cv → Cv) (k n : Nat) (ks : List Nat) (rs : List (Nat × Row)) (Q : Lk → Gh → Prop) : Prop :=
  ∃ V G, keys G = ks ∧ NewRows X I A O w1 rs V G ∧ (∀ x ∈ keys rs, k ≤ x ∧ x < k + n) ∧
    ∀ m' γ', Fits m' γ' rs V → (∀ x v, RelC S.lk γ x v → RelC m' γ' (f x) v) → Q m' γ'

theorem resCs_ok {c : CallI} {args : List Value} (h : c.Ent X S γ w args) {K : List Nat} {O : OM} {w1 : World} {f : Cv → Cv} {ms : List Nat} {ys : List Rc} {us : List Value} {ks : List Nat}
    (hr : RelRcs X (entry c.g c.ar.acs c.vin).lk (c.gh X γ w args) K O w1 ms ys us ks) : ∀ {k : Nat} {cs : List Cv} {rs : List (Nat × Row)}, resCs f c.avs c.ar.imm k ms ys = some (cs, rs) →
    ResOk X S γ (c.ar.imm = true) (fun g => ∃ r, r ∉ K ∧ Fam r (O g)) O w1 f k ys.length ks rs fun m' γ' => RelL m' γ' cs us := by
  induction hr with
  | nil =>
    intro k cs rs h
    simp only [resCs, Option.some.injEq, Prod.mk.injEq] at h; obtain ⟨rfl, rfl⟩ := h
    exact ⟨[], [], rfl, .nil, by simp [keys], fun _ _ _ _ => .nil⟩
  | cons hy _ ih =>
    rename_i ms y v k1 ys vs ks _
    intro k cs rs hres
    simp only [resCs] at hres
    cases hrest : resCs f c.avs c.ar.imm (k + 1) (tl ms) ys with
    | none => simp [hrest] at hres
    | some p =>
      obtain ⟨cs', rs'⟩ := p
      simp only [hrest] at hres
      obtain ⟨V, G, hG, hN, hK, hQ⟩ := ih hrest
      have lift : ∀ x ∈ keys rs', k ≤ x ∧ x < k + (ys.length + 1) := fun x hx => by have := hK x hx; omega
      -- no new row
      have plain : ∀ (x : Cv), k1 = [] → cs = x :: cs' → rs = rs' → (∀ m' γ', (∀ x v, RelC S.lk γ x v → RelC m' γ' (f x) v) → RelC m' γ' x v) →
          ResOk X S γ (c.ar.imm = true) (fun g => ∃ r, r ∉ K ∧ Fam r (O g)) O w1 f k (ys.length + 1) (k1 ++ ks) rs fun m' γ' => RelL m' γ' cs (v :: vs) := by
        rintro x rfl rfl rfl hx
        exact ⟨V, G, by simpa using hG, hN, lift, fun m' γ' hF hk => .cons (hx m' γ' hk) (hQ m' γ' hF hk)⟩
      cases y with
      | m y =>
        obtain ⟨rfl, hone, hvis⟩ := hy
        cases y with
        | l τ xs =>
          simp only at hres
          cases hi : c.ar.imm with
          | true =>
            simp only [hi, Option.some.injEq, Prod.mk.injEq] at hres
            obtain ⟨rfl, rfl⟩ := hres
            obtain ⟨cv, hvis⟩ := hvis
            refine ⟨(k, (v, cv)) :: V, G, by simpa using hG, .imm rfl hvis (by rw [hi] at hN; exact hN), fun x hx => ?_, fun m' γ' hF hk => .cons hF.head (hQ m' γ' hF.tail hk)⟩
            simp only [keys, List.mem_cons] at hx
            rcases hx with rfl | hx
            · simp
            · exact lift x hx
          | false =>
            simp only [hi, Option.some.injEq, Prod.mk.injEq] at hres
            rw [← hi]
            exact plain .un rfl hres.1.symm hres.2.symm (fun _ _ _ => hone)
        | u =>
          simp only [flatC, Option.some.injEq, Prod.mk.injEq] at hres
          exact plain _ rfl hres.1.symm hres.2.symm (fun _ _ _ => hone)
        | b x =>
          simp only [flatC, Option.some.injEq, Prod.mk.injEq] at hres
          exact plain _ rfl hres.1.symm hres.2.symm (fun _ _ _ => hvis)
        | i a n =>
          simp only [flatC, Option.some.injEq, Prod.mk.injEq] at hres
          exact plain _ rfl hres.1.symm hres.2.symm (fun _ _ _ => hvis)
        | s x =>
          simp only [flatC, Option.some.injEq, Prod.mk.injEq] at hres
          exact plain _ rfl hres.1.symm hres.2.symm (fun _ _ _ => hvis)
      | c y =>
        cases y with
        | l τ xs =>
          simp only [Option.some.injEq, Prod.mk.injEq] at hres
          obtain ⟨rfl, rfl⟩ := hres
          obtain ⟨hd3, hnew⟩ := hy
          have hkk : ∀ x ∈ keys ((k, (⟨τ, xs, hd ms⟩ : Row)) :: rs'), k ≤ x ∧ x < k + (ys.length + 1) := fun x hx => by
            simp only [keys, List.mem_cons] at hx
            rcases hx with rfl | hx
            · simp
            · exact lift x hx
          rcases hnew with ⟨rfl, rfl, rfl⟩ | ⟨key, cv, rfl, hrow⟩
          · exact ⟨(k, (.slice none 0 0, [])) :: V, G, by simpa using hG, .emp hN, hkk, fun m' γ' hF hk => .cons hF.head (hQ m' γ' hF.tail hk)⟩
          · exact ⟨(k, (v, cv)) :: V, (key, (k, hd ms)) :: G, by simp [keys, hG], .own hrow (hdK_cases hd3) hN, hkk, fun m' γ' hF hk => .cons hF.head (hQ m' γ' hF.tail hk)⟩
        | u =>
          simp only [flatC, Option.some.injEq, Prod.mk.injEq] at hres
          exact plain _ hy.1 hres.1.symm hres.2.symm (fun _ _ _ => hy.2)
        | b x =>
          simp only [flatC, Option.some.injEq, Prod.mk.injEq] at hres
          exact plain _ hy.1 hres.1.symm hres.2.symm (fun _ _ _ => hy.2)
        | i a n =>
          simp only [flatC, Option.some.injEq, Prod.mk.injEq] at hres
          exact plain _ hy.1 hres.1.symm hres.2.symm (fun _ _ _ => hy.2)
        | s x =>
          simp only [flatC, Option.some.injEq, Prod.mk.injEq] at hres
          exact plain _ hy.1 hres.1.symm hres.2.symm (fun _ _ _ => hy.2)
      | al p j e cc =>
        simp only at hres
        cases ha : aliasC c.avs (.al p j e cc) with
        | none => simp [ha] at hres
        | some x =>
          simp only [ha, Option.some.injEq, Prod.mk.injEq] at hres
          obtain ⟨h1, h2⟩ := alias_ok h hy ha
          exact plain _ h1 hres.1.symm hres.2.symm (fun _ _ hk => hk x v h2)
      | aw p j =>
        simp only at hres
        cases ha : aliasC c.avs (.aw p j) with
        | none => simp [ha] at hres
        | some x =>
          simp only [ha, Option.some.injEq, Prod.mk.injEq] at hres
          obtain ⟨h1, h2⟩ := alias_ok h hy ha
          exact plain _ h1 hres.1.symm hres.2.symm (fun _ _ hk => hk x v h2)
      | un =>
        simp only at hres
        cases ha : aliasC c.avs .un with
        | none => simp [ha] at hres
        | some x =>
          simp only [ha, Option.some.injEq, Prod.mk.injEq] at hres
          obtain ⟨h1, h2⟩ := alias_ok h hy ha
          exact plain _ h1 hres.1.symm hres.2.symm (fun _ _ hk => hk x v h2)

theorem resTs_ok {c : CallI} {args : List Value} (h : c.Ent X S γ w args) {K : List Nat} {O : OM} {w1 : World} {f : Cv → Cv} {ms : List (List Nat)} {ys : List (Bool × List Rc)} {us : List Value} {ks : List Nat}
    (hr : RelRts X (entry c.g c.ar.acs c.vin).lk (c.gh X γ w args) K O w1 ms ys us ks) : ∀ {k : Nat} {ts : List (Bool × List Cv)} {rs : List (Nat × Row)}, resTs f c.avs c.ar.imm k ms ys = some (ts, rs) →
    ResOk X S γ (c.ar.imm = true) (fun g => ∃ r, r ∉ K ∧ Fam r (O g)) O w1 f k (rtsN ys) ks rs fun m' γ' => RelTs m' γ' ts us := by
  induction hr with
  | nil =>
    intro k cs rs h
    simp only [resTs, Option.some.injEq, Prod.mk.injEq] at h; obtain ⟨rfl, rfl⟩ := h
    exact ⟨[], [], rfl, .nil, by simp [keys], fun _ _ _ _ => .nil⟩
  | cons hy hb1 hb2 _ ih =>
    rename_i ms b l us v k1 ys vs ks _
    intro k ts rs hres
    simp only [resTs] at hres
    cases h1 : resCs f c.avs c.ar.imm k (hdL ms) l with
    | none => simp [h1] at hres
    | some p =>
      cases h2 : resTs f c.avs c.ar.imm (k + l.length) (tl ms) ys with
      | none => simp [h1, h2] at hres
      | some q =>
        obtain ⟨cs1, rs1⟩ := p
        obtain ⟨ts2, rs2⟩ := q
        simp only [h1, h2, Option.some.injEq, Prod.mk.injEq] at hres
        obtain ⟨rfl, rfl⟩ := hres
        obtain ⟨V1, G1, g1, n1, k1', q1⟩ := resCs_ok h hy h1
        obtain ⟨V2, G2, g2, n2, k2', q2⟩ := ih h2
        refine ⟨V1 ++ V2, G1 ++ G2, by rw [keys_append, g1, g2], n1.append n2, fun x hx => ?_, fun m' γ' hF hk => .cons ⟨us, q1 m' γ' hF.left hk, hb1, hb2⟩ (q2 m' γ' hF.right hk)⟩
        rw [keys_append, List.mem_append] at hx
        simp only [rtsN, rcsN_len]
        rcases hx with hx | hx
        · have := k1' x hx; omega
        · have := k2' x hx; omega


theorem upK_mem : ∀ (n k x : Nat), x ∈ upK k n ↔ k ≤ x ∧ x < k + n
  | 0, k, x => by simp [upK]
  | n + 1, k, x => by simp only [upK, List.mem_cons, upK_mem n (k + 1) x]; omega

/-! ### variables -/
theorem CallI.Ok.own {c : CallI} (h : c.Ok) : keys (hVars c.m 0 c.g.vl c.ar.κ) = c.ow ∧ ∀ (k v : Nat), c.ar.κ[k]? = some v → ∃ cs, c.m.v v = some cs ∧ ∀ j cc, cs[j]? = some cc →
    OwnV c.m (· ∈ c.b) (fun r x d => (r, (x, d)) ∈ hVars c.m 0 c.g.vl c.ar.κ) (300000 + k * 64 + j) (md (mdL c.g.vl k) j) cc := by
  have hh := h.hand
  simp only [Lk.handed] at hh
  cases ho : c.m.ownRowsOf c.g.vl c.ar.κ with
  | none => simp [ho] at hh
  | some p =>
    obtain ⟨ow, b⟩ := p
    have hb : ow = c.ow ∧ b = c.b := by
      simp only [ho] at hh
      revert hh; split
      · intro hh; simp only [Option.some.injEq, Prod.mk.injEq] at hh; exact hh
      · intro hh; cases hh
    obtain ⟨h1, h2⟩ := ownRowsOf_inv (k0 := 0) ho
    rw [hb.1] at h1
    rw [hb.2] at h2
    refine ⟨h1, fun k v hk => ?_⟩
    obtain ⟨cs, h3, h4⟩ := h2 k v hk
    refine ⟨cs, h3, fun j cc hc => ?_⟩
    have := h4 j cc hc
    rwa [Nat.zero_add] at this

theorem homes_mem (v : Nat) : ∀ (cs : List Cv) (j x : Nat), x ∈ homes v j cs ↔ ∃ i, i < cs.length ∧ x = 1000000 + v * 64 + j + i
  | [], j, x => by simp [homes]
  | c :: cs, j, x => by
    simp only [homes, List.mem_cons, homes_mem v cs (j + 1) x, List.length_cons]
    constructor
    · rintro (rfl | ⟨i, h1, rfl⟩)
      · exact ⟨0, by omega, by omega⟩
      · exact ⟨i + 1, by omega, by omega⟩
    · rintro ⟨i, h1, rfl⟩
      cases i with
      | zero => left; omega
      | succ i => exact .inr ⟨i, by omega, by omega⟩
theorem homesOf_mem : ∀ {κ : List Nat} {v x : Nat} {cs : List Cv}, v ∈ κ → m.v v = some cs → x ∈ homes v 0 cs → x ∈ m.homesOf κ
  | [], v, x, cs, h, _, _ => by simp at h
  | u :: κ, v, x, cs, h, hv, hx => by
    simp only [Lk.homesOf, List.mem_append]
    rcases List.mem_cons.1 h with rfl | h
    · left; rw [hv]; exact hx
    · exact .inr (homesOf_mem h hv hx)
theorem homesOf_ge : ∀ {κ : List Nat} {x : Nat}, x ∈ m.homesOf κ → 1000000 ≤ x
  | [], x, h => by simp [Lk.homesOf] at h
  | u :: κ, x, h => by
    simp only [Lk.homesOf, List.mem_append] at h
    rcases h with h | h
    · cases hu : m.v u with
      | none => rw [hu] at h; simp at h
      | some cs => rw [hu] at h; obtain ⟨i, _, rfl⟩ := (homes_mem u cs 0 x).1 h; omega
    · exact homesOf_ge h

theorem cellsNew_ok {I : Prop} {A : Nat → Prop} {γ0 : Gh} {O : OM} {w1 : World} {f : Cv → Cv} {v key : Nat} {ms : List Nat} {ys : List Ct} {us : List Value} {ks : List Nat} (hr : RelVcs X γ0 O w1 key ms ys us ks) :
    ∀ {j : Nat} {cs cs' : List Cv} {rs : List (Nat × Row)}, cellsNew f v j ms cs ys = some (cs', rs) → (∀ (i : Nat) (cc : Cv), cs[i]? = some cc → md ms i = 1 → RelC S.lk γ cc (γ0.rv (key + i))) →
      ∃ V G, keys G = ks ∧ NewRows X I A O w1 rs V G ∧ (∀ x ∈ keys rs, (∃ i, cs[i]? = some (.sw x) ∧ md ms i ≠ 0 ∧ md ms i ≠ 1) ∨ ∃ i, i < cs.length ∧ x = 1000000 + v * 64 + j + i) ∧
        (∀ p ∈ rs, hdK p.2.ow = true) ∧
        ∀ m' γ', Fits m' γ' rs V → (∀ x v, RelC S.lk γ x v → RelC m' γ' (f x) v) → RelL m' γ' cs' us := by
  induction hr with
  | nil =>
    intro j cs cs' rs h _
    cases cs with
    | nil => simp only [cellsNew, Option.some.injEq, Prod.mk.injEq] at h; obtain ⟨rfl, rfl⟩ := h; exact ⟨[], [], rfl, .nil, by simp [keys], by simp, fun _ _ _ _ => .nil⟩
    | cons => simp [cellsNew] at h
  | cons hy _ ih =>
    rename_i key ms y u a ys us ks _
    intro j cs cs' rs h hone
    cases cs with
    | nil => simp [cellsNew] at h
    | cons c cs =>
      simp only [cellsNew] at h
      cases hrest : cellsNew f v (j + 1) (tl ms) cs ys with
      | none => simp [hrest] at h
      | some p =>
        obtain ⟨cs2, rs2⟩ := p
        simp only [hrest] at h
        obtain ⟨V, G, hG, hN, hK, hO, hQ⟩ := ih hrest (fun i cc hc hm => by rw [md_tl] at hm; have := hone (i + 1) cc (by simpa using hc) hm; rwa [show key + (i + 1) = key + 1 + i by omega] at this)
        have lift : ∀ x ∈ keys rs2, (∃ i, (c :: cs)[i]? = some (.sw x) ∧ md ms i ≠ 0 ∧ md ms i ≠ 1) ∨ ∃ i, i < (c :: cs).length ∧ x = 1000000 + v * 64 + j + i := by
          intro x hx
          rcases hK x hx with ⟨i, h1, h2, h3⟩ | ⟨i, h1, h2⟩
          · exact .inl ⟨i + 1, by simpa using h1, by rwa [md_tl] at h2, by rwa [md_tl] at h3⟩
          · exact .inr ⟨i + 1, by simp; omega, by omega⟩
        have plain : ∀ x, a = [] → cs' = x :: cs2 → rs = rs2 → (∀ m' γ', (∀ x v, RelC S.lk γ x v → RelC m' γ' (f x) v) → RelC m' γ' x u) →
            ∃ V G, keys G = a ++ ks ∧ NewRows X I A O w1 rs V G ∧ (∀ x ∈ keys rs, (∃ i, (c :: cs)[i]? = some (.sw x) ∧ md ms i ≠ 0 ∧ md ms i ≠ 1) ∨ ∃ i, i < (c :: cs).length ∧ x = 1000000 + v * 64 + j + i) ∧
              (∀ p ∈ rs, hdK p.2.ow = true) ∧ ∀ m' γ', Fits m' γ' rs V → (∀ x v, RelC S.lk γ x v → RelC m' γ' (f x) v) → RelL m' γ' cs' (u :: us) := by
          rintro x rfl rfl rfl hx
          exact ⟨V, G, by simpa using hG, hN, lift, hO, fun m' γ' hF hk => .cons (hx m' γ' hk) (hQ m' γ' hF hk)⟩
        have h012 : hd ms = 0 ∨ hd ms = 1 ∨ ∃ n, hd ms = n + 2 := by
          rcases hn : hd ms with _ | _ | n
          · exact .inl rfl
          · exact .inr (.inl rfl)
          · exact .inr (.inr ⟨n, rfl⟩)
        rcases h012 with h0 | h1 | ⟨n, hn2⟩
        · simp only [RelVc, h0] at hy h
          obtain ⟨rfl, rfl, hfl⟩ := hy
          cases hf : flatC y with
          | none => simp [hf] at h
          | some x =>
            simp only [hf, Option.some.injEq, Prod.mk.injEq] at h
            refine plain x rfl h.1.symm h.2.symm (fun m' γ' _ => flatC_rel hf (.inr ⟨?_, rfl⟩))
            rintro rfl; exact hfl
        · simp only [RelVc, h1] at hy h
          simp only [Option.some.injEq, Prod.mk.injEq] at h
          obtain ⟨rfl, rfl⟩ := hy
          have := hone 0 c rfl h1
          rw [Nat.add_zero] at this
          exact plain (f c) rfl h.1.symm h.2.symm (fun m' γ' hk => hk c _ this)
        · simp only [RelVc, hn2] at hy h
          rw [← hn2] at hy
          cases y with
          | l τ xs =>
            simp only at h hy
            obtain ⟨hd3, hnew⟩ := hy
            have hm0 : md ms 0 ≠ 0 ∧ md ms 0 ≠ 1 := by
              rcases hdK_cases hd3 with h | h | h <;> rw [md_zero, h] <;> decide
            -- with its key
            have fin : ∀ (kk : Nat), cs' = .sw kk :: cs2 → rs = (kk, (⟨τ, xs, hd ms⟩ : Row)) :: rs2 → ((c = .sw kk) ∨ kk = 1000000 + v * 64 + j) →
                ∃ V G, keys G = a ++ ks ∧ NewRows X I A O w1 rs V G ∧ (∀ x ∈ keys rs, (∃ i, (c :: cs)[i]? = some (.sw x) ∧ md ms i ≠ 0 ∧ md ms i ≠ 1) ∨ ∃ i, i < (c :: cs).length ∧ x = 1000000 + v * 64 + j + i) ∧
                  (∀ p ∈ rs, hdK p.2.ow = true) ∧ ∀ m' γ', Fits m' γ' rs V → (∀ x v, RelC S.lk γ x v → RelC m' γ' (f x) v) → RelL m' γ' cs' (u :: us) := by
              rintro kk rfl rfl hkk
              have hK' : ∀ x ∈ keys ((kk, (⟨τ, xs, hd ms⟩ : Row)) :: rs2), (∃ i, (c :: cs)[i]? = some (.sw x) ∧ md ms i ≠ 0 ∧ md ms i ≠ 1) ∨ ∃ i, i < (c :: cs).length ∧ x = 1000000 + v * 64 + j + i := by
                intro x hx
                simp only [keys, List.mem_cons] at hx
                rcases hx with rfl | hx
                · rcases hkk with rfl | rfl
                  · exact .inl ⟨0, rfl, hm0⟩
                  · exact .inr ⟨0, by simp, by omega⟩
                · exact lift x hx
              have hO' : ∀ p ∈ (kk, (⟨τ, xs, hd ms⟩ : Row)) :: rs2, hdK p.2.ow = true := by
                intro p hp
                rcases List.mem_cons.1 hp with rfl | hp
                · exact hd3
                · exact hO p hp
              rcases hnew with ⟨rfl, rfl, rfl⟩ | ⟨k1, cv, rfl, hrow⟩
              · exact ⟨(kk, (.slice none 0 0, [])) :: V, G, by simpa using hG, .emp hN, hK', hO', fun m' γ' hF hk => .cons hF.head (hQ m' γ' hF.tail hk)⟩
              · exact ⟨(kk, (u, cv)) :: V, (k1, (kk, hd ms)) :: G, by simp [keys, hG], .own hrow (hdK_cases hd3) hN, hK', hO', fun m' γ' hF hk => .cons hF.head (hQ m' γ' hF.tail hk)⟩
            rw [← hn2] at h
            revert h; split
            · intro h; simp only [Option.some.injEq, Prod.mk.injEq] at h; exact fin _ h.1.symm h.2.symm (.inl rfl)
            · intro h; simp only [Option.some.injEq, Prod.mk.injEq] at h; exact fin _ h.1.symm h.2.symm (.inr rfl)
          | _ => simp at h

theorem tl_drop' {α : Type} (l : List α) (k : Nat) : tl (l.drop k) = l.drop (k + 1) := by
  have : ∀ l : List α, tl l = l.drop 1 := by intro l; cases l <;> rfl
  rw [this, List.drop_drop]

theorem varsNew_ok {c : CallI} {args : List Value} (h : c.Ent X S γ w args) {I : Prop} {A : Nat → Prop} {O : OM} {w1 : World} {f : Cv → Cv} {k0 : Nat} {ms : List (List Nat)} {vo : List (List Ct)} {ks : List Nat}
    (hr : RelVo X (c.gh X γ w args) O w1 k0 ms vo ks) : ∀ {κ' : List Nat} {vs : List (Nat × List Cv)} {rs : List (Nat × Row)}, (∀ (i : Nat), κ'[i]? = c.ar.κ[k0 + i]?) → ms = c.g.vl.drop k0 → c.m.varsNew f ms κ' vo = some (vs, rs) →
      ∃ V G, keys G = ks ∧ NewRows X I A O w1 rs V G ∧ keys vs = κ' ∧ (∀ x ∈ keys rs, (x ∈ c.ow ∧ notIo x = true) ∨ x ∈ c.m.homesOf c.ar.κ) ∧ (∀ p ∈ rs, hdK p.2.ow = true) ∧
        ∀ m' γ', Fits m' γ' rs V → (∀ x v, RelC S.lk γ x v → RelC m' γ' (f x) v) → ∀ v cs', (v, cs') ∈ vs →
          ∃ (k : Nat) (cur : Array Value) (e : TypeId), c.ar.κ[k]? = some v ∧ O (γ.vb v) = some (.v k) ∧ w1.heap[γ.vb v]? = some (.cells cur e (0, 0)) ∧ RelL m' γ' cs' cur.toList := by
  induction hr with
  | nil =>
    intro κ' vs rs hκ hms hv
    cases κ' with
    | nil => simp only [Lk.varsNew, Option.some.injEq, Prod.mk.injEq] at hv; obtain ⟨rfl, rfl⟩ := hv; exact ⟨[], [], rfl, .nil, rfl, by simp [keys], by simp, fun _ _ _ _ v cs' hm => by simp at hm⟩
    | cons => simp [Lk.varsNew] at hv
  | cons hO1 hcur hcs _ ih =>
    rename_i k0 ms l a vo ks cur e _
    intro κ' vs rs hκ hms hv
    cases κ' with
    | nil => simp [Lk.varsNew] at hv
    | cons v κ' =>
      simp only [Lk.varsNew] at hv
      cases hmv : c.m.v v with
      | none => simp [hmv] at hv
      | some cs =>
        cases h1 : cellsNew f v 0 (hdL ms) cs l with
        | none => simp [hmv, h1] at hv
        | some p =>
          cases h2 : c.m.varsNew f (tl ms) κ' vo with
          | none => simp [hmv, h1, h2] at hv
          | some q =>
            obtain ⟨a1, r1⟩ := p
            obtain ⟨b1, q1⟩ := q
            simp only [hmv, h1, h2, Option.some.injEq, Prod.mk.injEq] at hv
            obtain ⟨rfl, rfl⟩ := hv
            have hkv : c.ar.κ[k0]? = some v := by have := hκ 0; simpa using this.symm
            have hvb : (c.gh X γ w args).vb k0 = γ.vb v := by show γ.vb (c.ar.κ.getD k0 0) = _; simp [List.getD, hkv]
            rw [hvb] at hO1 hcur
            obtain ⟨hown1, hown2⟩ := h.ok.own
            obtain ⟨cs2, hcs2, hov⟩ := hown2 k0 v hkv
            rw [hmv] at hcs2; cases hcs2
            have hml : hdL ms = mdL c.g.vl k0 := by rw [hms]; rfl
            obtain ⟨_, cur0, e0, hcur0, hrl0⟩ := h.rel.vs v cs (h.le.v _ _ hmv)
            obtain ⟨cs3, _, hcs3, _, _, h63⟩ := (vins_inv h.ok.vins).2 k0 v hkv
            rw [hmv] at hcs3; cases hcs3
            obtain ⟨V1, G1, g1, n1, k1, o1, q1'⟩ := cellsNew_ok (S := S) (γ := γ) (I := I) (A := A) hcs h1 (fun i cc hc _ => by
              obtain ⟨uv, huv, hrc⟩ := hrl0.get hc
              have : (c.gh X γ w args).rv (300000 + k0 * 64 + i) = uv := by
                show c.rv γ w args (300000 + k0 * 64 + i) = uv
                have hil : i < 64 := by have := (List.getElem?_eq_some_iff.1 hc).1; omega
                rw [c.rv_var γ w args k0 i v hil hkv hcur0]; simp only [List.getD, huv]; rfl
              rw [this]; exact hrc)
            obtain ⟨V2, G2, g2, n2, k2, k2', o2, q2⟩ := ih (fun i => by have := hκ (i + 1); rw [List.getElem?_cons_succ] at this; rw [this]; congr 1; omega) (by rw [hms, tl_drop']) h2
            refine ⟨V1 ++ V2, G1 ++ G2, by rw [keys_append, g1, g2], n1.append n2, by simp [keys, k2], fun x hx => ?_, fun p hp => ?_, fun m' γ' hF hk u cs' hm => ?_⟩
            · rw [keys_append, List.mem_append] at hx
              rcases hx with hx | hx
              · rcases k1 x hx with ⟨i, e1, e2, e3⟩ | ⟨i, e1, e2⟩
                · rw [hml] at e2 e3
                  rcases hov i _ e1 with ⟨hd, _⟩ | ⟨_, ⟨r, row, e4, _, _, e5, e6⟩ | ⟨σ, e4⟩⟩
                  · rcases hd with hd | hd
                    · exact absurd hd e2
                    · exact absurd hd e3
                  · cases e4
                    exact .inl ⟨by rw [← hown1]; exact mem_keys e6, e5⟩
                  · cases e4
                · exact .inr (homesOf_mem (List.mem_of_getElem? hkv) hmv ((homes_mem v cs 0 x).2 ⟨i, e1, e2⟩))
              · exact k2' x hx
            · rcases List.mem_append.1 hp with hp | hp
              · exact o1 p hp
              · exact o2 p hp
            · rcases List.mem_cons.1 hm with hm | hm
              · cases hm
                exact ⟨k0, cur, e, hkv, hO1, hcur, q1' m' γ' hF.left hk⟩
              · exact q2 m' γ' hF.right hk u cs' hm

/-! ### rows that are written -/
theorem hCs_nosw (key d : Nat) : ∀ (cs : List Cv) (j : Nat), (∀ r, Cv.sw r ∉ cs) → hCs key d j cs = []
  | [], j, _ => rfl
  | c :: cs, j, h => by
    have := hCs_nosw key d cs (j + 1) (fun r hr => h r (List.mem_cons_of_mem _ hr))
    cases c <;> simp only [hCs] <;> first | exact this | exact absurd List.mem_cons_self (h _)

theorem ioNew_ok {c : CallI} {args : List Value} (h : c.Ent X S γ w args) {I : Prop} {A : Nat → Prop} {O : OM} {w1 : World} {p : Nat} {acs : List AC} {ys : List Ct} {ks : List Nat}
    (hr : RelIo X (c.gh X γ w args) O w1 p acs ys ks) : ∀ {avs : List AV} {r2 : List (Nat × Row)}, (∀ (i : Nat), acs[i]? = c.ar.acs[p + i]?) → (∀ (i : Nat), avs[i]? = c.avs[p + i]?) → acs.length = avs.length →
      c.m.ioNew (keys (hIo (c.g.am.drop p) p avs)) ys = some r2 →
      ∃ V G, keys G = ks ∧ NewRows X I A O w1 r2 V G ∧ (∀ p ∈ r2, p.2.ow = 5) ∧ ∀ k v cs, (k, (v, cs)) ∈ V → v = γ.rv k := by
  induction hr with
  | nil =>
    intro avs r2 _ _ hl hio
    cases avs with
    | cons => simp at hl
    | nil => simp only [hIo, keys, Lk.ioNew, Option.some.injEq] at hio; subst hio; exact ⟨[], [], rfl, .nil, by simp, by simp⟩
  | io hrow _ ih =>
    rename_i p τ xs xs' cs l ys ks _
    intro avs r2 hacs havs hl hio
    cases avs with
    | nil => simp at hl
    | cons v avs =>
      have hx : c.ar.acs[p]? = some (.io τ xs) := by have := hacs 0; simpa using this.symm
      have hv0 : c.avs[p]? = some v := by have := havs 0; simpa using this.symm
      obtain ⟨v', u, hv, hu, hgu, hrv, hP, hA⟩ := h.arg hx
      rw [hv0] at hv; cases hv
      cases hA with
      | val h1 => rcases h1 with ⟨_, h⟩ | ⟨_, _, _, h, _⟩ <;> cases h
      | io h0 h9 hmr hH =>
        rename_i r
        have h9' : hd (c.g.am.drop p) = 9 := h9
        simp only [hIo, h9', is9, avl, hCs, keys_append, tl_drop'] at hio
        simp only [keys, List.singleton_append, List.cons_append, List.nil_append, Lk.ioNew, hmr] at hio
        cases hrest : c.m.ioNew (keys (hIo (c.g.am.drop (p + 1)) (p + 1) avs)) ys with
        | none => simp [hrest] at hio
        | some q =>
          simp only [hrest, tEq_self, Option.some.injEq] at hio; subst hio
          obtain ⟨V, G, hG, hN, h5, hV⟩ := ih (fun i => by have := hacs (i + 1); rw [List.getElem?_cons_succ] at this; rw [this]; congr 1; omega)
            (fun i => by have := havs (i + 1); rw [List.getElem?_cons_succ] at this; rw [this]; congr 1; omega) (by simpa using hl) hrest
          have hval : (c.gh X γ w args).rv (200000 + p * 64) = γ.rv r := by
            show c.rv γ w args (200000 + p * 64) = _
            rw [c.rv_io γ w args p hP, hgu]; exact hrv.2
          rw [hval] at hrow
          refine ⟨(r, (γ.rv r, cs)) :: V, (200000 + p * 64, (r, 5)) :: G, by simp [keys, hG], .own hrow (.inr (.inr rfl)) hN, fun q hq => ?_, fun k v' cs' hm => ?_⟩
          · rcases List.mem_cons.1 hq with rfl | hq
            · rfl
            · exact h5 q hq
          · rcases List.mem_cons.1 hm with hm | hm
            · cases hm; rfl
            · exact hV k v' cs' hm
  | skip hne _ ih =>
    rename_i p x l ys ks _
    intro avs r2 hacs havs hl hio
    cases avs with
    | nil => simp at hl
    | cons v avs =>
      have hx : c.ar.acs[p]? = some x := by have := hacs 0; simpa using this.symm
      have hv0 : c.avs[p]? = some v := by have := havs 0; simpa using this.symm
      obtain ⟨v', u, hv, hu, hgu, hrv, hP, hA⟩ := h.arg hx
      rw [hv0] at hv; cases hv
      have hsame : hIo (c.g.am.drop p) p (v :: avs) = hIo (c.g.am.drop (p + 1)) (p + 1) avs := by
        simp only [hIo, tl_drop']
        cases h9 : is9 (hd (c.g.am.drop p)) with
        | false => rfl
        | true =>
          have hd9 : md c.g.am p = 9 := by
            have : hd (c.g.am.drop p) = 9 := by
              revert h9; unfold is9; split
              · rename_i h; exact fun _ => h
              · simp
            exact this
          have hno : hCs (200000 + p * 64) 5 0 (avl v) = [] := by
            cases hA with
            | ptr _ _ => exact hCs_nosw _ _ _ _ (by simp [avl])
            | fn _ _ _ => exact hCs_nosw _ _ _ _ (by simp [avl])
            | val h1 h2 h3 h4 =>
              exfalso
              rw [hd9] at h4
              rcases h4 with ⟨h, _⟩ | ⟨h, _⟩ | ⟨h, _⟩
              · cases h
              · cases h
              · simp [hdK] at h
            | io h0 h1 h2 h3 => exact absurd rfl (hne _ _)
            | al h0 h8 h1 h2 h3 => rw [hd9] at h8; cases h8
          rw [hno]; rfl
      rw [hsame] at hio
      exact ih (fun i => by have := hacs (i + 1); rw [List.getElem?_cons_succ] at this; rw [this]; congr 1; omega)
        (fun i => by have := havs (i + 1); rw [List.getElem?_cons_succ] at this; rw [this]; congr 1; omega) (by simpa using hl) hio

end Go.Soft
