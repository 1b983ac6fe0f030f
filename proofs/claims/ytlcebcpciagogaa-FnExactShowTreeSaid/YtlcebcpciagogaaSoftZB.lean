/-
  SoftZB: a state taken apart and put together again.
-/
import Derived.Test.YtlcebcpciagogaaSoftZA
set_option linter.constructorNameAsVariable false
set_option linter.unusedSimpArgs false
set_option linter.unusedVariables false
namespace Go.Soft
open Go
variable {X : Ctx} {m M : Lk} {γ γ' : Gh} {w w' : World} {ρ : Operand → Value} {S T : St} {δ δ' : Dl}

theorem eqNs_eq : ∀ {a b : List Nat}, eqNs a b = true → a = b
  | [], [], _ => rfl
  | x :: l, y :: m, h => by simp only [eqNs, Bool.and_eq_true] at h; rw [nat_beq h.1, eqNs_eq h.2]
  | [], _ :: _, h => by simp [eqNs] at h
  | _ :: _, [], h => by simp [eqNs] at h
theorem unC_ok {x : Cv} {sh : Sh} (h : eqSh (flC x).1 sh = true) (l : List Val) : unC sh ((flC x).2 ++ l) = some (x, l) := by
  cases x <;> cases sh <;> simp only [flC, eqSh, Bool.false_eq_true, Bool.and_eq_true] at h <;> simp only [flC, unC, List.cons_append, List.nil_append, Option.some.injEq, Prod.mk.injEq, and_true]
  case nl.nl a b => rw [tEq_eq h]
  case sw.sw => rw [nat_beq h]
  case sl.sl => rw [nat_beq h]
  case nw.nw => rw [nat_beq h.1, nat_beq h.2]
  case ns.ns => rw [nat_beq h.1, nat_beq h.2]
  case pv.pv => rw [nat_beq h.1, nat_beq h.2]
  case pe.pe => rw [nat_beq h.1, nat_beq h.2]
  case pn.pn => rw [nat_beq h.1, nat_beq h.2.1, nat_beq h.2.2]
  case fn.fn => rw [nat_beq h.1, eqNs_eq h.2]
theorem unL_ok : ∀ {x : List Cv} {sh : List Sh}, eqL (flL x).1 sh = true → ∀ l : List Val, unL sh ((flL x).2 ++ l) = some (x, l)
  | [], [], _, l => rfl
  | x :: xs, a :: b, h, l => by
    simp only [flL, eqL, Bool.and_eq_true] at h
    simp only [flL, unL, List.append_assoc, unC_ok h.1, unL_ok h.2]
  | [], _ :: _, h, _ => by simp [flL, eqL] at h
  | _ :: _, [], h, _ => by simp [flL, eqL] at h
theorem unT_ok : ∀ {x : List (Bool × List Cv)} {sh : List (Bool × List Sh)}, eqTs (flT x).1 sh = true → ∀ l : List Val, unT sh ((flT x).2 ++ l) = some (x, l)
  | [], [], _, l => rfl
  | (t, x) :: xs, (u, a) :: b, h, l => by
    simp only [flT, eqTs, Bool.and_eq_true] at h
    have htu : t = u := by cases t <;> cases u <;> simp_all
    simp only [flT, unT, List.append_assoc, unL_ok h.2.1, unT_ok h.2.2, htu]
  | [], _ :: _, h, _ => by simp [flT, eqTs] at h
  | _ :: _, [], h, _ => by simp [flT, eqTs] at h
def AV.plain : AV → Prop
  | .g .. => False
  | _ => True
theorem unA_ok : ∀ {x : AV} {sh : ShA}, x.plain → eqA (flA x).1 sh = true → ∀ l : List Val, unA sh ((flA x).2 ++ l) = some (x, l)
  | .c x, .c a, _, h, l => by simp only [flA, eqA] at h; simp only [flA, unA, unC_ok h]
  | .a x, .a a, _, h, l => by simp only [flA, eqA] at h; simp only [flA, unA, unL_ok h]
  | .t x, .t a, _, h, l => by simp only [flA, eqA] at h; simp only [flA, unA, unT_ok h]
  | .g .., _, hp, _, _ => hp.elim
  | .c x, .a _, _, h, _ => by simp [flA, eqA] at h
  | .c x, .t _, _, h, _ => by simp [flA, eqA] at h
  | .a x, .c _, _, h, _ => by simp [flA, eqA] at h
  | .a x, .t _, _, h, _ => by simp [flA, eqA] at h
  | .t x, .c _, _, h, _ => by simp [flA, eqA] at h
  | .t x, .a _, _, h, _ => by simp [flA, eqA] at h
def noG (l : List (Nat × AV)) : Prop := ∀ p ∈ l, p.2.plain
theorem unTm_ok : ∀ {x : List (Nat × AV)} {sh : List (Nat × ShA)}, noG x → eqTm (flTm x).1 sh = true → ∀ l : List Val, unTm sh ((flTm x).2 ++ l) = some (x, l)
  | [], [], _, _, l => rfl
  | (t, x) :: xs, (u, a) :: b, hp, h, l => by
    simp only [flTm, eqTm, Bool.and_eq_true] at h
    have htu := nat_beq h.1
    simp only [flTm, unTm, List.append_assoc, unA_ok (hp _ List.mem_cons_self) h.2.1, unTm_ok (fun p hm => hp p (List.mem_cons_of_mem _ hm)) h.2.2, htu]
  | [], _ :: _, _, h, _ => by simp [flTm, eqTm] at h
  | _ :: _, [], _, h, _ => by simp [flTm, eqTm] at h
theorem unVs_ok : ∀ {x : List (Nat × List Cv)} {sh : List (Nat × List Sh)}, eqVs (flVs x).1 sh = true → ∀ l : List Val, unVs sh ((flVs x).2 ++ l) = some (x, l)
  | [], [], _, l => rfl
  | (t, x) :: xs, (u, a) :: b, h, l => by
    simp only [flVs, eqVs, Bool.and_eq_true] at h
    have htu := nat_beq h.1
    simp only [flVs, unVs, List.append_assoc, unL_ok h.2.1, unVs_ok h.2.2, htu]
  | [], _ :: _, h, _ => by simp [flVs, eqVs] at h
  | _ :: _, [], h, _ => by simp [flVs, eqVs] at h

/-- rows of these kinds -/
def lowRs : List (Nat × Row) → List (Nat × (Ty × Nat)) → List (Nat × Row)
  | (k, row) :: l, (_, (_, d)) :: m => (k, { row with ow := d }) :: lowRs l m
  | _, _ => []
theorem unRs_ok : ∀ {x : List (Nat × Row)} {sh : List (Nat × (Ty × Nat))}, eqRs (flRs x).1 sh = true → unRs sh (flRs x).2 = some (lowRs x sh)
  | [], [], _ => rfl
  | (t, x) :: xs, (u, (a, d)) :: b, h => by
    simp only [flRs, eqRs, Bool.and_eq_true] at h
    have htu := nat_beq h.1
    simp only [flRs, unRs, unRs_ok h.2.2.2, lowRs, htu]
  | [], _ :: _, h => by simp [flRs, eqRs] at h
  | _ :: _, [], h => by simp [flRs, eqRs] at h
def lowK (sh : List (Nat × (Ty × Nat))) (r : Nat) : Nat := match lk sh r with | some (_, d) => d | none => 0
theorem lk_lowRs : ∀ {x : List (Nat × Row)} {sh : List (Nat × (Ty × Nat))}, eqRs (flRs x).1 sh = true → ∀ k, lk (lowRs x sh) k = (lk x k).map fun row => { row with ow := lowK sh k }
  | [], [], _, k => rfl
  | (t, x) :: xs, (u, (a, d)) :: b, h, k => by
    simp only [flRs, eqRs, Bool.and_eq_true] at h
    have htu := nat_beq h.1
    subst htu
    have ih := lk_lowRs h.2.2.2 k
    simp only [lowRs, lk, lowK]
    cases hk : Nat.beq t k with
    | true => rfl
    | false => simp only; rw [ih]; rfl
  | [], _ :: _, h, _ => by simp [flRs, eqRs] at h
  | _ :: _, [], h, _ => by simp [flRs, eqRs] at h
theorem low_le : ∀ {x : List (Nat × Row)} {sh : List (Nat × (Ty × Nat))}, eqRs (flRs x).1 sh = true → ∀ k row, lk x k = some row → leK (lowK sh k) row.ow = true ∧ (lowK sh k = 1 → row.ow = 1 ∨ k < 100000 ∨ 400000 ≤ k)
  | [], _, _, k, row, h => by cases h
  | (t, x) :: xs, (u, (a, d)) :: b, h, k, row, hk => by
    simp only [flRs, eqRs, Bool.and_eq_true] at h
    have htu := nat_beq h.1
    subst htu
    simp only [lk] at hk
    simp only [lowK, lk]
    cases hkt : Nat.beq t k with
    | true =>
      simp only [hkt, Option.some.injEq] at hk
      have := nat_beq hkt; subst this; subst hk
      obtain ⟨h1, h2, ⟨h3, h4⟩, h5⟩ := h
      refine ⟨h3, fun hd => ?_⟩
      have hd : d = 1 := hd
      subst hd
      simp only [Bool.or_eq_true] at h4
      rcases h4 with h4 | h4 | h4
      · exact .inl (nat_beq h4)
      · exact .inr (.inl (by have := Nat.le_of_ble_eq_true h4; omega))
      · exact .inr (.inr (Nat.le_of_ble_eq_true h4))
    | false =>
      simp only [hkt] at hk
      have := low_le h.2.2.2 k row hk
      simpa [lowK] using this
  | (_, _) :: _, [], h, _, _, _ => by simp [flRs, eqRs] at h

/-- the state at a loop's head, in the form that is given -/
theorem unflat_eq {sk : Sk} (hg : noG S.tm) (h : eqSk (flat S).1 sk = true) : unflat sk (flat S).2 = some ⟨S.tm, S.vs, lowRs S.rs sk.rs⟩ := by
  simp only [flat, eqSk, Bool.and_eq_true] at h
  simp only [flat, unflat, unTm_ok hg h.1, unVs_ok h.2.1, unRs_ok h.2.2]
theorem unflat_ok {sk : Sk} (h : eqSk (flat S).1 sk = true) {e0 : Lk} {γ0 : Gh} {w0 : World} {a : Act} (hI : Inv X e0 γ0 w0 S γ a w) : ∃ γ', Inv X e0 γ0 w0 ⟨S.tm, S.vs, lowRs S.rs sk.rs⟩ γ' a w := by
  simp only [flat, eqSk, Bool.and_eq_true] at h
  have hr : ∀ k, (St.mk S.tm S.vs (lowRs S.rs sk.rs)).lk.r k = (S.lk.r k).map fun row => { row with ow := lowK sk.rs k } := fun k => lk_lowRs h.2.2 k
  have hn : Ren S ⟨S.tm, S.vs, lowRs S.rs sk.rs⟩ some (lowK sk.rs) id := by
    refine ⟨fun r r' k h1 h2 => by cases h1; cases h2; rfl, fun k row' hk => ?_, fun r k row h1 h2 => ?_, fun r k row h1 h2 => .inl (low_le h.2.2 r row h2).1, fun k cs' hk => ⟨cs', hk, by simp⟩,
      fun t av' ht => ⟨av', ht, (mapV_id (fun _ => rfl) _).symm⟩, rfl, fun x => ?_, fun r k h _ _ => by cases h; rfl⟩
    · rw [hr] at hk
      cases hl : S.lk.r k with
      | none => rw [hl] at hk; cases hk
      | some row => rw [hl] at hk; cases hk; exact ⟨k, row, rfl, hl, rfl⟩
    · cases h1; rw [hr, h2]; rfl
    · cases x with
      | sw r => exact .inr (.inr ⟨r, r, rfl, .inl ⟨rfl, rfl⟩⟩)
      | sl r o n => exact .inr (.inr ⟨r, r, rfl, .inr (.inl ⟨o, n, rfl, rfl⟩)⟩)
      | nw r o n => exact .inr (.inr ⟨r, r, rfl, .inr (.inr (.inl ⟨o, n, rfl, rfl⟩))⟩)
      | ns r e c o n => exact .inr (.inr ⟨r, r, rfl, .inr (.inr (.inr (.inl ⟨e, c, o, n, rfl, rfl⟩)))⟩)
      | pe r o n => exact .inr (.inr ⟨r, r, rfl, .inr (.inr (.inr (.inr (.inl ⟨o, n, rfl, rfl⟩))))⟩)
      | pn r e c o n => exact .inr (.inr ⟨r, r, rfl, .inr (.inr (.inr (.inr (.inr ⟨e, c, o, n, rfl, rfl⟩))))⟩)
      | _ => exact .inr (.inl ⟨rfl, rfl, fun k _ cs hcs => ⟨cs, hcs⟩⟩)
  obtain ⟨γ', h1, h2⟩ := hn.ok hI.weak
  refine ⟨γ', h1.inv fun k row' hk1 hk2 hk3 hk4 => ?_⟩
  rw [hr] at hk3
  cases hl : S.lk.r k with
  | none => rw [hl] at hk3; cases hk3
  | some row =>
    rw [hl] at hk3; cases hk3
    have hk4 : lowK sk.rs k = 1 := hk4
    have h5 : row.ow = 1 := by
      rcases (low_le h.2.2 k row hl).2 hk4 with h | h | h
      · exact h
      · omega
      · omega
    obtain ⟨i1, i2, i3⟩ := hI.i3 k row hk1 hk2 hl h5
    obtain ⟨j1, j2⟩ := h2 k k row rfl hl
    exact ⟨by rw [i1, hk4, ← h5], by rw [j1, i2], by rw [j2, i3]⟩

end Go.Soft
