/-
  SoftC: operations that change nothing.
-/
import Derived.Test.YtlcebcpciagogaaSoftB
import Derived.Laws.Slices
import Derived.Laws.BytesString
import Derived.Laws.StructEq
import Derived.Great.BuildSlice
set_option linter.constructorNameAsVariable false
set_option linter.unusedSimpArgs false
set_option linter.unusedVariables false
namespace Go.Soft
open Go

/-- a struct's == is its fields' -/
def StructEq (P : Program) (t : TypeId) : Prop := ∀ (l m : List Cv) (us vs : List Value) (c : Bool) (γ : Gh) (M : Lk) (w : World), RelL M γ l us → RelL M γ m vs → cvsEq l m = some c →
  (do eqGuard .eql t (.tmp 0) (.tmp 0) (.agg us.toArray) (.agg vs.toArray); Op.equal t (.agg us.toArray) (.agg vs.toArray) : Sem Bool).run P w = .ok c w

/-- what is held of a program's types, once -/
structure CtxOk (X : Ctx) : Prop where
  ty : ∀ e τ, lk X.ty e = some τ → ∃ i, X.P.info? e = some i ∧ i.size = sz τ
  id : ∀ e τ, lk X.ty e = some τ → X.id τ = e → ∃ i z, X.P.info? e = some i ∧ i.zero = some z ∧ z.cells.toList = (cells τ (dflt τ)).map ctVal ∧ i.bytes ≤ 128
  byte : ∀ e, lk X.ty e = some .byte → X.P.underlying e = some (.int .u8)
  eqs : ∀ t, hasN t X.eqs = true → StructEq X.P t
  mixed : X.P.follows .mixedOrders = true

variable {X : Ctx} {m M : Lk} {γ : Gh} {w : World} {ρ : Operand → Value}

theorem run_info {P : Program} {t : TypeId} {i : TypeInfo} (h : P.info? t = some i) (w : World) : (typeInfo t).run P w = .ok i w := by
  simp [typeInfo, h]
theorem run_size {P : Program} {t : TypeId} {i : TypeInfo} (h : P.info? t = some i) (w : World) : (sizeOf t).run P w = .ok i.size w := by
  simp [sizeOf, typeInfo, h]
theorem szOf_pos {P : Program} {t : TypeId} {n : Nat} (h : szOf P t = n) (hn : 0 < n) : ∃ i, P.info? t = some i ∧ i.size = n := by
  unfold szOf at h
  cases hi : P.info? t with
  | none => simp [hi] at h; omega
  | some i => exact ⟨i, rfl, by simpa [hi] using h⟩

theorem RelC.int {k : IntKind} {n : Int} {v : Value} (h : RelC M γ (.i k n) v) : v = .int k n := h
theorem kEq_eq {a b : IntKind} (h : kEq a b = true) : a = b := by cases a <;> cases b <;> first | rfl | simp [kEq] at h
theorem tEq_eq {a b : Ty} (h : tEq a b = true) : a = b := by cases a <;> cases b <;> first | rfl | simp [tEq] at h
theorem tEq_self (a : Ty) : tEq a a = true := by cases a <;> rfl

theorem bytesLess_total : ∀ x y : List UInt8, (Op.bytesLess x y || x == y) = !Op.bytesLess y x
  | [], [] => rfl
  | [], b :: y => rfl
  | a :: x, [] => rfl
  | a :: x, b :: y => by
    have ih := bytesLess_total x y
    simp only [Op.bytesLess]
    by_cases h1 : a < b
    · have h2 : ¬ b < a := UInt8.lt_asymm h1
      have h3 : a ≠ b := fun e => UInt8.lt_irrefl _ (e ▸ h1)
      simp [h1, h2, h3, Ne.symm h3]
    · by_cases h2 : b < a
      · have h3 : a ≠ b := fun e => UInt8.lt_irrefl _ (e ▸ h2)
        simp [h1, h2, h3, Ne.symm h3]
      · have h3 : a = b := UInt8.le_antisymm (UInt8.not_lt.1 h2) (UInt8.not_lt.1 h1)
        subst h3
        simp only [UInt8.lt_irrefl, decide_false, Bool.false_or, beq_self_eq_true, Bool.true_and]
        rw [← ih]
        simp

/-- it is served, and its check holds -/
def Good (o : Out) (v : AV) : Prop := o = .r0 v ∨ o = .r true v

theorem int_ok {op : BinOp} {k : IntKind} {a b : Int} {t : TypeId} {x y : Operand} {v : AV} (h : Good (binO op (.c (.i k a)) (.c (.i k b))) v) :
    ∃ u, (do eqGuard op t x y (.int k a) (.int k b); Go.binOp op t (.int k a) (.int k b) : Sem Value).run X.P w = .ok u w ∧ RelA M γ v u := by
  have hk : kEq k k = true := by cases k <;> rfl
  cases op <;> simp only [Good, binO, cmpI, hk, Out.r0.injEq, Out.r.injEq, reduceCtorEq, or_false, false_or, decide_eq_true_eq, Bool.not_eq_true', beq_eq_false_iff_ne] at h
  case quo => obtain ⟨h0, rfl⟩ := h; exact ⟨_, by simp [eqGuard, Go.binOp, Op.intDiv, h0], rfl⟩
  case rem => obtain ⟨h0, rfl⟩ := h; exact ⟨_, by simp [eqGuard, Go.binOp, Op.intDiv, h0], rfl⟩
  case shl => obtain ⟨h0, rfl⟩ := h; exact ⟨_, by simp [eqGuard, Go.binOp, Op.shift, Int.not_lt.2 h0], rfl⟩
  case shr => obtain ⟨h0, rfl⟩ := h; exact ⟨_, by simp [eqGuard, Go.binOp, Op.shift, Int.not_lt.2 h0], rfl⟩
  all_goals (subst h; exact ⟨_, by simp [eqGuard, Go.binOp, Op.intArith, Op.intBits, Op.intCmp, bne], rfl⟩)

theorem shift_ok {op : BinOp} {k k' : IntKind} {a b : Int} {t : TypeId} {x y : Operand} {v : AV} (hk : kEq k k' = false) (h : Good (binO op (.c (.i k a)) (.c (.i k' b))) v) :
    ∃ u, (do eqGuard op t x y (.int k a) (.int k' b); Go.binOp op t (.int k a) (.int k' b) : Sem Value).run X.P w = .ok u w ∧ RelA M γ v u := by
  cases op <;> simp only [Good, binO, cmpI, hk, Out.r0.injEq, Out.r.injEq, reduceCtorEq, or_false, false_or, decide_eq_true_eq, Bool.not_eq_true', beq_eq_false_iff_ne] at h
  case shl => obtain ⟨h0, rfl⟩ := h; exact ⟨_, by simp [eqGuard, Go.binOp, Op.shift, Int.not_lt.2 h0], rfl⟩
  case shr => obtain ⟨h0, rfl⟩ := h; exact ⟨_, by simp [eqGuard, Go.binOp, Op.shift, Int.not_lt.2 h0], rfl⟩

theorem str_ok {op : BinOp} {a b : ByteArray} {t : TypeId} {x y : Operand} {v : AV} (h : Good (binO op (.c (.s a)) (.c (.s b))) v) :
    ∃ u, (do eqGuard op t x y (.string a) (.string b); Go.binOp op t (.string a) (.string b) : Sem Value).run X.P w = .ok u w ∧ RelA M γ v u := by
  have e1 : (a.toList == b.toList) = (a == b) := (beq_toListBytes a b).symm
  have e2 := bytesLess_total a.toList b.toList
  cases op <;> simp only [Good, binO, cmpS, sLt, Out.r0.injEq, Out.r.injEq, reduceCtorEq, or_false, false_or, decide_eq_true_eq] at h
  case add =>
    obtain ⟨h0, rfl⟩ := h
    have : ¬ ((a.size + b.size : Nat) : Int) > IntKind.i64.max := by
      show ¬ ((a.size + b.size : Nat) : Int) > 9223372036854775807
      omega
    exact ⟨_, by simp only [eqGuard, Go.binOp, Op.stringOp, if_neg this]; rfl, rfl⟩
  case gtr => subst h; exact ⟨_, by simp only [eqGuard, Go.binOp, Op.stringOp, e2]; rfl, by simp [RelA, RelC]⟩
  case leq => subst h; exact ⟨_, by simp only [eqGuard, Go.binOp, Op.stringOp, e2]; rfl, by simp [RelA, RelC]⟩
  all_goals (subst h; exact ⟨_, by simp only [eqGuard, Go.binOp, Op.stringOp, e1]; rfl, rfl⟩)

theorem run_equal_bool {t : TypeId} (ht : X.P.underlying t = some .bool) (a b : Bool) : (Op.equal t (.bool a) (.bool b)).run X.P w = .ok (a == b) w := by
  show (Op.equalIn (9999 + 1) t (.bool a) (.bool b)).run X.P w = _
  rw [Op.equalIn, Sem.run_bind, run_underlying ht]
  rfl

theorem bool_ok {op : BinOp} {a : Bool} {b : AV} {bv : Value} {t : TypeId} {x y : Operand} {v : AV} (ht : X.P.underlying t = some .bool) (hb : RelA M γ b bv) (h : Good (binO op (.c (.b a)) b) v) :
    ∃ u, (do eqGuard op t x y (.bool a) bv; Go.binOp op t (.bool a) bv : Sem Value).run X.P w = .ok u w ∧ RelA M γ v u := by
  cases b with
  | c y =>
    cases y with
    | b b =>
      have hb : bv = .bool b := hb
      subst hb
      cases op <;> simp only [Good, binO, Out.r0.injEq, Out.r.injEq, reduceCtorEq, or_false, false_or] at h
      all_goals (subst h; exact ⟨_, by simp only [eqGuard, Go.binOp, Sem.run_bind, Bool.not_true, Bool.false_eq_true, if_false, Sem.run_pure, Result.andThen_ok, run_equal_bool ht], rfl⟩)
    | _ => simp [Good, binO] at h
  | _ => simp [Good, binO] at h

theorem agg_ok (hX : CtxOk X) {op : BinOp} {a : List Cv} {b : AV} {av bv : Value} {t : TypeId} {x y : Operand} {v : AV} (ht : hasN t X.eqs = true) (ha : RelA M γ (.a a) av) (hb : RelA M γ b bv)
    (h : Good (binO op (.a a) b) v) : ∃ u, (do eqGuard op t x y av bv; Go.binOp op t av bv : Sem Value).run X.P w = .ok u w ∧ RelA M γ v u := by
  cases b with
  | a m =>
    obtain ⟨us, rfl, hu⟩ := ha
    obtain ⟨vs, rfl, hv⟩ := hb
    have key : ∀ c, cvsEq a m = some c → (eqGuard .eql t (.tmp 0) (.tmp 0) (.agg us.toArray) (.agg vs.toArray) >>= fun _ => Op.equal t (.agg us.toArray) (.agg vs.toArray)).run X.P w = .ok c w :=
      fun c hc => hX.eqs t ht a m us vs c γ M w hu hv hc
    have g1 : ∀ op x y, (op = .eql ∨ op = .neq) → eqGuard op t x y (.agg us.toArray) (.agg vs.toArray) = eqGuard .eql t (.tmp 0) (.tmp 0) (.agg us.toArray) (.agg vs.toArray) := by
      intro op x y ho; rcases ho with rfl | rfl <;> simp [eqGuard]
    cases hc : cvsEq a m with
    | none => cases op <;> simp [Good, binO, hc] at h
    | some c =>
      have key := key c hc
      simp only [Sem.run_bind] at key
      cases op <;> simp only [Good, binO, hc, Out.r0.injEq, Out.r.injEq, reduceCtorEq, or_false, false_or] at h
      case eql =>
        subst h
        refine ⟨_, ?_, rfl⟩
        rw [g1 _ x y (.inl rfl)]
        simp only [Go.binOp, Sem.run_bind]
        cases hg : (eqGuard .eql t (.tmp 0) (.tmp 0) (.agg us.toArray) (.agg vs.toArray)).run X.P w with
        | halt hh w' => rw [hg] at key; simp at key
        | ok z w' =>
          rw [hg] at key
          simp only [Result.andThen_ok] at key ⊢
          rw [key]; rfl
      case neq =>
        subst h
        refine ⟨_, ?_, rfl⟩
        rw [g1 _ x y (.inr rfl)]
        simp only [Go.binOp, Sem.run_bind]
        cases hg : (eqGuard .eql t (.tmp 0) (.tmp 0) (.agg us.toArray) (.agg vs.toArray)).run X.P w with
        | halt hh w' => rw [hg] at key; simp at key
        | ok z w' =>
          rw [hg] at key
          simp only [Result.andThen_ok] at key ⊢
          rw [key]; rfl
  | _ => simp [Good, binO] at h

/-! ### slices -/
theorem Addr_add (g o n : Nat) : (⟨g, o, none⟩ : Addr).add n = ⟨g, o + n, none⟩ := by
  unfold Addr.add; split <;> simp_all

/-- a slice's value, and how long it is -/
def SlcV (v : Value) (n : Nat) : Prop := (v = .slice none 0 0 ∧ n = 0) ∨ ∃ g o cap, v = .slice (some ⟨g, o, none⟩) n cap ∧ n ≤ cap

theorem SlF.slcV {A : Nat → Prop} {z : Nat} {v : Value} {n : Nat} {cs : List Value} (h : SlF A w z v n cs) : SlcV v n := by
  rcases h.2 with h | ⟨g, o, cap, cur, e, fz, hv, _, _, hn, _⟩
  · exact .inl h
  · exact .inr ⟨g, o, cap, hv, hn⟩
theorem SlcV.sub {z : Nat} {b v : Value} {off len n : Nat} (hs : SubV z b off len v) : SlcV v len := by
  rcases hs with ⟨_, hv, h0⟩ | ⟨g, o, n', cap, o', cap', _, hv, hl, _⟩
  · exact .inl ⟨hv, h0⟩
  · exact .inr ⟨g, o', cap', hv, hl.1⟩
theorem SlcV.self {z : Nat} {b : Value} {n : Nat} (h : SlcV b n) : SubV z b 0 n b := by
  rcases h with ⟨rfl, rfl⟩ | ⟨g, o, cap, rfl, hn⟩
  · exact .inl ⟨rfl, rfl, rfl⟩
  · exact .inr ⟨g, o, n, cap, o, cap, rfl, rfl, ⟨hn, by simp⟩, Nat.le_refl _, by simp, .inr (by simp)⟩

theorem vw_slcV (hm : Le m M) (hR : Rel X M γ w) {x : Cv} {v : Value} (hx : RelC M γ x v) {n : Nat} (h : (m.vw x).len = some n) : SlcV v n := by
  cases x with
  | nl σ => simp only [Lk.vw, Vw.len, Option.some.injEq] at h; subst h; exact .inl ⟨hx, rfl⟩
  | sw r =>
    simp only [Lk.vw] at h
    cases hr : m.r r with
    | none => simp [hr, Vw.len] at h
    | some row =>
      simp only [hr, Vw.len, Option.some.injEq] at h; subst h
      obtain ⟨_, rfl⟩ := hx
      exact (hR.rs r row (hm.r r row hr)).top.slF.slcV
  | sl r off len =>
    simp only [Lk.vw] at h
    cases hr : m.r r with
    | none => simp [hr, Vw.len] at h
    | some row =>
      simp only [hr, Vw.len, Option.some.injEq] at h; subst h
      obtain ⟨_, _, _, hs⟩ := hx
      exact SlcV.sub (n := 0) hs
  | nw r e c =>
    simp only [Lk.vw, nth_eq] at h
    cases hr : m.r r with
    | none => simp [hr, Vw.len] at h
    | some row =>
      obtain ⟨row', τ', ys, hr', he, hc, hu⟩ := hx
      have hr2 := hm.r r row hr
      rw [hr2] at hr'; cases hr'
      simp only [hr, hc, Vw.len, Option.some.injEq] at h; subst h
      obtain ⟨u', hu', hcell⟩ := (hR.rs r row hr2).cel e c _ he hc
      rw [hu] at hu'; cases hu'
      exact hcell.2.slF.slcV
  | ns r e c off len =>
    simp only [Lk.vw, nth_eq] at h
    cases hr : m.r r with
    | none => simp [hr, Vw.len] at h
    | some row =>
      obtain ⟨row', τ', ys, u, hr', he, hc, hu, hle, hs⟩ := hx
      have hr2 := hm.r r row hr
      rw [hr2] at hr'; cases hr'
      simp only [hr, hc, Vw.len, Option.some.injEq] at h; subst h
      exact SlcV.sub (n := 0) hs
  | _ => simp [Lk.vw, Vw.len] at h

theorem sliced_sub {z : Nat} {b v : Value} {off len l k : Nat} (hs : SubV z b off len v) (hl : l + k ≤ len) :
    ∃ a cap, v = .slice a len cap ∧ len ≤ cap ∧ SubV z b (off + l) k (sliced a l (l + k) cap z) := by
  rcases hs with ⟨hb, hv, h0⟩ | ⟨g, o, n', cap, o', cap', hb, hv, hlc, ho1, ho2, ho3⟩
  · subst hv; subst h0
    obtain ⟨rfl, rfl⟩ : l = 0 ∧ k = 0 := by omega
    exact ⟨none, 0, rfl, Nat.le_refl _, .inl ⟨hb, by simp [sliced], rfl⟩⟩
  · refine ⟨_, _, hv, hlc.1, ?_⟩
    have hlc1 := hlc.1
    have hlc2 := hlc.2
    simp only [sliced]
    by_cases hc : cap' = l
    · have hk : k = 0 := by omega
      subst hk
      rw [if_pos hc]
      refine .inr ⟨g, o, n', cap, o', cap' - l, hb, by simp, ⟨by omega, by omega⟩, ho1, ?_, .inl rfl⟩
      have := Nat.mul_le_mul_right z (show off ≤ off + l by omega)
      omega
    · rw [if_neg hc]
      refine .inr ⟨g, o, n', cap, o' + l * z, cap' - l, hb, by simp [Addr_add], ⟨by omega, by omega⟩, by omega, ?_, ?_⟩
      · rw [Nat.add_mul]; omega
      · rcases ho3 with h0 | h0
        · left; omega
        · right; rw [Nat.add_mul]; omega

def cutMk (x : Cv) (l k : Nat) : AV := match x with
  | .sw r => .c (.sl r l k) | .sl r off _ => .c (.sl r (off + l) k) | .nw r e c => .c (.ns r e c l k) | .ns r e c off _ => .c (.ns r e c (off + l) k) | .nl τ => .c (.nl τ) | _ => .c .un

/-- a part of what is seen -/
theorem cut_rel (hm : Le m M) (hR : Rel X M γ w) {x : Cv} {v : Value} (hx : RelC M γ x v) {n : Nat} (h : (m.vw x).len = some n) {τ : Ty} (ht : (m.vw x).ty = some τ) {l k : Nat} (hl : l + k ≤ n) :
    ∃ a cap, v = .slice a n cap ∧ n ≤ cap ∧ RelA M γ (cutMk x l k) (sliced a l (l + k) cap (sz τ)) := by
  have hs := vw_slcV hm hR hx h
  cases x with
  | nl σ =>
    simp only [Lk.vw, Vw.len, Option.some.injEq, List.length_nil] at h; subst h
    obtain ⟨rfl, rfl⟩ : l = 0 ∧ k = 0 := by omega
    have hx : v = .slice none 0 0 := hx
    exact ⟨none, 0, hx, Nat.le_refl _, by simp [cutMk, RelA, RelC, sliced]⟩
  | sw r =>
    simp only [Lk.vw] at h ht
    cases hr : m.r r with
    | none => simp [hr, Vw.len] at h
    | some row =>
      simp only [hr, Vw.len, Vw.ty, Option.some.injEq] at h ht; subst h; subst ht
      obtain ⟨_, rfl⟩ := hx
      obtain ⟨a, cap, h1, h2, h3⟩ := sliced_sub (z := sz row.τ) hs.self hl
      exact ⟨a, cap, h1, h2, row, hm.r r row hr, hl, by simpa using h3⟩
  | sl r off len =>
    simp only [Lk.vw] at h ht
    cases hr : m.r r with
    | none => simp [hr, Vw.len] at h
    | some row =>
      simp only [hr, Vw.len, Vw.ty, Option.some.injEq] at h ht; subst h; subst ht
      obtain ⟨row', hr', hle, hsub⟩ := hx
      rw [hm.r r row hr] at hr'; cases hr'
      obtain ⟨a, cap, h1, h2, h3⟩ := sliced_sub hsub hl
      exact ⟨a, cap, h1, h2, row, hm.r r row hr, by omega, h3⟩
  | nw r e c =>
    simp only [Lk.vw, nth_eq] at h ht
    cases hr : m.r r with
    | none => simp [hr, Vw.len] at h
    | some row =>
      obtain ⟨row', τ', ys, hr', he, hc, hu⟩ := hx
      rw [hm.r r row hr] at hr'; cases hr'
      simp only [hr, hc, Vw.len, Vw.ty, Option.some.injEq] at h ht; subst h; subst ht
      obtain ⟨a, cap, h1, h2, h3⟩ := sliced_sub (z := sz τ') hs.self hl
      exact ⟨a, cap, h1, h2, row, τ', ys, v, hm.r r row hr, he, hc, hu, hl, by simpa using h3⟩
  | ns r e c off len =>
    simp only [Lk.vw, nth_eq] at h ht
    cases hr : m.r r with
    | none => simp [hr, Vw.len] at h
    | some row =>
      obtain ⟨row', τ', ys, u, hr', he, hc, hu, hle, hsub⟩ := hx
      rw [hm.r r row hr] at hr'; cases hr'
      simp only [hr, hc, Vw.len, Vw.ty, Option.some.injEq] at h ht; subst h; subst ht
      obtain ⟨a, cap, h1, h2, h3⟩ := sliced_sub hsub hl
      exact ⟨a, cap, h1, h2, row, τ', ys, u, hm.r r row hr, he, hc, hu, by omega, h3⟩
  | _ => simp [Lk.vw, Vw.len] at h

theorem elSz_pos {P : Program} {t : TypeId} {n : Nat} (h : elSz P t = n) (hn : 0 < n) : ∃ e i, P.underlying t = some (.slice e) ∧ P.info? e = some i ∧ i.size = n := by
  simp only [elSz, elId] at h
  revert h; split <;> intro h
  · rename_i e he
    obtain ⟨i, hi, hs⟩ := szOf_pos h hn
    revert he; split <;> intro he
    · cases he; exact ⟨_, i, by assumption, hi, hs⟩
    · cases he
  · omega

theorem elem_of_slice {P : Program} {t e : TypeId} (h : P.underlying t = some (.slice e)) : P.elem t = e := by simp [Program.elem, h]

theorem nat_beq {a b : Nat} (h : Nat.beq a b = true) : a = b := Nat.eq_of_beq_eq_true h

theorem run_slice_string_lh {P : Program} (w : World) (t : TypeId) (s : ByteArray) (ht : P.underlying t = some .string) (kl kh : IntKind) (l h : Int) (h0 : 0 ≤ l) (h1 : l ≤ h) (h2 : h ≤ s.size) :
    (Instr.slice t (.string s) (some (.int kl l)) (some (.int kh h)) none).run P w = .ok (.string (s.extract l.toNat h.toNat)) w := by
  have eh : (h.toNat : Int) = h := Int.toNat_of_nonneg (by omega)
  simp [Instr.slice, run_underlying ht, Instr.sliceBounds, run_sliceBound, h0, h1, h2, eh, (by omega : 0 ≤ h)]
theorem sliceA_cut (m : Lk) (x : Cv) (hx : ∀ a, x ≠ .s a) (lo hi : Option Int) : m.sliceA (.c x) lo hi = match (m.vw x).len with
    | none => .no
    | some n => match lo, hi with
      | none, none => .r0 (.c x)
      | some l, none => .r (decide (0 ≤ l) && decide (l ≤ (n : Int))) (cutMk x l.toNat (n - l.toNat))
      | none, some h => .r (decide (0 ≤ h) && decide (h ≤ (n : Int))) (cutMk x 0 h.toNat)
      | some l, some h => .r (decide (0 ≤ l) && (decide (l ≤ h) && decide (h ≤ (n : Int)))) (cutMk x l.toNat (h.toNat - l.toNat)) := by
  cases x <;> first | (exact absurd rfl (hx _)) | rfl

theorem slice_ok (hm : Le m M) (hR : Rel X M γ w) {t : TypeId} {x : AV} {xv : Value} (hx : RelA M γ x xv) {lo hi : Option Int} {kl kh : IntKind} {v : AV} (hcut : m.cutOk X.P t x = true)
    (h : Good (m.sliceA x lo hi) v) :
    ∃ u, (Instr.sliceAt t xv (lo.map (.int kl)) (hi.map (.int kh)) none).run X.P w = .ok u w ∧ RelA M γ v u := by
  have main : ∀ x : Cv, x ≠ .un → (∀ a, x ≠ .s a) → RelC M γ x xv → m.cutOk X.P t (.c x) = true → Good (m.sliceA (.c x) lo hi) v →
      ∃ u, (Instr.sliceAt t xv (lo.map (.int kl)) (hi.map (.int kh)) none).run X.P w = .ok u w ∧ RelA M γ v u := by
    intro x hun hns hx hcut h
    have hc : (match (m.vw x).ty with | some τ => Nat.beq (sz τ) (elSz X.P t) | none => false) = true := by
      revert hcut; cases x <;> first | (exact absurd rfl (hns _)) | exact id
    rw [sliceA_cut m x hns] at h
    cases hty : (m.vw x).ty with
    | none => simp [hty] at hc
    | some τ =>
      simp only [hty] at hc
      obtain ⟨e, i, he, hi', hs⟩ := elSz_pos (nat_beq hc).symm (sz_pos τ)
      have het : X.P.underlying t = some (.slice (X.P.elem t)) := by rw [elem_of_slice he]; exact he
      have hsize : ∀ w, (sizeOf (X.P.elem t)).run X.P w = .ok (sz τ) w := fun w => by rw [elem_of_slice he, run_size hi' w, hs]
      cases hlen : (m.vw x).len with
      | none => simp [hlen, Good] at h
      | some n =>
        simp only [hlen] at h
        rw [run_sliceAt_slice w t _ _ _ _ het]
        cases lo with
        | none =>
          cases hi with
          | none =>
            simp only [Good, Out.r0.injEq, reduceCtorEq, or_false] at h; subst h
            rcases vw_slcV hm hR hx hlen with ⟨rfl, rfl⟩ | ⟨g, o, cap, rfl, hn⟩
            · exact ⟨_, by simp only [Option.map]; rw [run_slice_all w t _ _ _ het, hsize]; simp [sliced], RelA.of hx⟩
            · exact ⟨_, by simp only [Option.map]; rw [run_slice_all w t _ _ _ het, hsize]; simp [sliced, Addr_add], RelA.of hx⟩
          | some hh =>
            simp only [Good, Out.r.injEq, reduceCtorEq, false_or, Bool.and_eq_true, decide_eq_true_eq] at h
            obtain ⟨⟨h0, h1⟩, rfl⟩ := h
            obtain ⟨a, cap, rfl, hn, hr⟩ := cut_rel hm hR hx hlen hty (l := 0) (k := hh.toNat) (by omega)
            exact ⟨_, by simp only [Option.map]; rw [run_slice_h w t _ _ _ het _ _ h0 (by omega), hsize]; rfl, by simpa using hr⟩
        | some l =>
          cases hi with
          | none =>
            simp only [Good, Out.r.injEq, reduceCtorEq, false_or, Bool.and_eq_true, decide_eq_true_eq] at h
            obtain ⟨⟨h0, h1⟩, rfl⟩ := h
            obtain ⟨a, cap, rfl, hn, hr⟩ := cut_rel hm hR hx hlen hty (l := l.toNat) (k := n - l.toNat) (by omega)
            exact ⟨_, by simp only [Option.map]; rw [run_slice_l w t _ _ _ het _ _ h0 (by omega), hsize]; rfl, by rw [show l.toNat + (n - l.toNat) = n by omega] at hr; exact hr⟩
          | some hh =>
            simp only [Good, Out.r.injEq, reduceCtorEq, false_or, Bool.and_eq_true, decide_eq_true_eq] at h
            obtain ⟨⟨h0, h1, h2⟩, rfl⟩ := h
            obtain ⟨a, cap, rfl, hn, hr⟩ := cut_rel hm hR hx hlen hty (l := l.toNat) (k := hh.toNat - l.toNat) (by omega)
            exact ⟨_, by simp only [Option.map]; rw [run_slice_lh w t _ _ _ het _ _ _ _ h0 h1 (by omega), hsize]; rfl, by rw [show l.toNat + (hh.toNat - l.toNat) = hh.toNat by omega] at hr; exact hr⟩
  cases x with
  | c x =>
    cases x with
    | s a =>
      have hx : xv = .string a := hx
      subst hx
      have hst : X.P.underlying t = some .string := by
        revert hcut; simp only [Lk.cutOk, isStr]; split
        · exact fun _ => by assumption
        · simp
      rw [run_sliceAt_string w t _ _ _ _ hst]
      cases lo with
      | none =>
        cases hi with
        | none =>
          simp only [Good, Lk.sliceA, Out.r0.injEq, reduceCtorEq, or_false] at h; subst h
          exact ⟨_, by simp only [Option.map]; rw [run_slice_string_all w t a hst], rfl⟩
        | some hh =>
          simp only [Good, Lk.sliceA, Out.r.injEq, reduceCtorEq, false_or, Bool.and_eq_true, decide_eq_true_eq] at h
          obtain ⟨⟨h0, h1⟩, rfl⟩ := h
          exact ⟨_, by simp only [Option.map]; rw [run_slice_string_h w t a hst _ _ h0 h1], rfl⟩
      | some l =>
        cases hi with
        | none =>
          simp only [Good, Lk.sliceA, Out.r.injEq, reduceCtorEq, false_or, Bool.and_eq_true, decide_eq_true_eq] at h
          obtain ⟨⟨h0, h1⟩, rfl⟩ := h
          exact ⟨_, by simp only [Option.map]; rw [run_slice_string_l w t a hst _ _ h0 h1], rfl⟩
        | some hh =>
          simp only [Good, Lk.sliceA, Out.r.injEq, reduceCtorEq, false_or, Bool.and_eq_true, decide_eq_true_eq] at h
          obtain ⟨⟨h0, h1, h2⟩, rfl⟩ := h
          exact ⟨_, by simp only [Option.map]; rw [run_slice_string_lh w t a hst _ _ _ _ h0 h1 h2], rfl⟩
    | un => simp [Lk.cutOk, Lk.vw, Vw.ty] at hcut
    | _ => exact main _ (by simp) (by simp) hx hcut h
  | _ => simp [Lk.cutOk] at hcut

/-! ### addresses -/
theorem index_ok (hm : Le m M) (hR : Rel X M γ w) {t : TypeId} {x : Cv} {xv : Value} (hx : RelC M γ x xv) {i : Int} {k : IntKind} {v : AV} (h : Good (m.indexA x i (elSz X.P t)) v) :
    ∃ u, (Instr.indexAt t xv (.int k i)).run X.P w = .ok u w ∧ RelA M γ v u := by
  have idx : ∀ (τ : Ty) (g o n cap : Nat), Nat.beq (sz τ) (elSz X.P t) = true → 0 ≤ i → i < (n : Int) →
      (Instr.indexAt t (.slice (some ⟨g, o, none⟩) n cap) (.int k i)).run X.P w = .ok (.pointer (some ⟨g, o + i.toNat * sz τ, none⟩)) w := by
    intro τ g o n cap hz h0 h1
    obtain ⟨e, inf, he, hi', hs⟩ := elSz_pos (nat_beq hz).symm (sz_pos τ)
    simp [Instr.indexAt, asIntOf, run_underlying he, h0, h1, run_size hi', hs, Addr_add]
  cases x with
  | sw r =>
    simp only [Lk.indexA, Lk.vw] at h
    cases hr : m.r r with
    | none => simp [hr, Good] at h
    | some row =>
      simp only [hr] at h
      cases hz : Nat.beq (sz row.τ) (elSz X.P t) with
      | false => simp [hz, Good] at h
      | true =>
        simp only [hz, Good, Out.r.injEq, reduceCtorEq, false_or, inR, Bool.and_eq_true, decide_eq_true_eq] at h
        obtain ⟨⟨h0, h1⟩, rfl⟩ := h
        have hs := vw_slcV hm hR hx (n := row.xs.length) (by simp [Lk.vw, hr, Vw.len])
        rcases hs with ⟨_, hn⟩ | ⟨g, o, cap, rfl, hn⟩
        · omega
        · refine ⟨_, idx row.τ g o _ cap hz h0 h1, row, hm.r r row hr, by omega, g, o, row.xs.length, cap, hx.2.symm, by simp⟩
  | sl r off len =>
    simp only [Lk.indexA, Lk.vw] at h
    cases hr : m.r r with
    | none => simp [hr, Good] at h
    | some row =>
      simp only [hr] at h
      cases hz : Nat.beq (sz row.τ) (elSz X.P t) with
      | false => simp [hz, Good] at h
      | true =>
        simp only [hz, Good, Out.r.injEq, reduceCtorEq, false_or, inR, Bool.and_eq_true, decide_eq_true_eq] at h
        obtain ⟨⟨h0, h1⟩, rfl⟩ := h
        obtain ⟨row', hr', hle, hsub⟩ := hx
        rw [hm.r r row hr] at hr'; cases hr'
        rcases hsub with ⟨_, _, hn⟩ | ⟨g, o, n', cap, o', cap', hb, rfl, hlc, _, _, ho⟩
        · omega
        · refine ⟨_, idx row.τ g o' len cap' hz h0 h1, row, hm.r r row hr, by omega, g, o, n', cap, hb, ?_⟩
          rcases ho with ho | ho
          · omega
          · rw [ho, Nat.add_mul]; simp [Nat.add_assoc]
  | nw r e c =>
    simp only [Lk.indexA, Lk.vw, nth_eq] at h
    cases hr : m.r r with
    | none => simp [hr, Good] at h
    | some row =>
      have hx' := hx
      obtain ⟨row', τ', ys, hr', he, hc, hu⟩ := hx
      rw [hm.r r row hr] at hr'; cases hr'
      simp only [hr, hc] at h
      cases hz : Nat.beq (sz τ') (elSz X.P t) with
      | false => simp [hz, Good] at h
      | true =>
        simp only [hz, Good, Out.r.injEq, reduceCtorEq, false_or, inR, Bool.and_eq_true, decide_eq_true_eq] at h
        obtain ⟨⟨h0, h1⟩, rfl⟩ := h
        have hs := vw_slcV hm hR hx' (n := ys.length) (by simp [Lk.vw, hr, nth_eq, hc, Vw.len])
        rcases hs with ⟨_, hn⟩ | ⟨g, o, cap, rfl, hn⟩
        · omega
        · exact ⟨_, idx τ' g o _ cap hz h0 h1, row, τ', ys, _, hm.r r row hr, he, hc, hu, by omega, g, o, _, cap, rfl, by simp⟩
  | ns r e c off len =>
    simp only [Lk.indexA, Lk.vw, nth_eq] at h
    cases hr : m.r r with
    | none => simp [hr, Good] at h
    | some row =>
      obtain ⟨row', τ', ys, u, hr', he, hc, hu, hle, hsub⟩ := hx
      rw [hm.r r row hr] at hr'; cases hr'
      simp only [hr, hc] at h
      cases hz : Nat.beq (sz τ') (elSz X.P t) with
      | false => simp [hz, Good] at h
      | true =>
        simp only [hz, Good, Out.r.injEq, reduceCtorEq, false_or, inR, Bool.and_eq_true, decide_eq_true_eq] at h
        obtain ⟨⟨h0, h1⟩, rfl⟩ := h
        rcases hsub with ⟨_, _, hn⟩ | ⟨g, o, n', cap, o', cap', hb, rfl, hlc, _, _, ho⟩
        · omega
        · refine ⟨_, idx τ' g o' len cap' hz h0 h1, row, τ', ys, u, hm.r r row hr, he, hc, hu, by omega, g, o, n', cap, hb, ?_⟩
          rcases ho with ho | ho
          · omega
          · rw [ho, Nat.add_mul]; simp [Nat.add_assoc]
  | _ => simp [Lk.indexA, Good] at h

theorem field_ok {t : TypeId} {f n : Nat} {a : Cv} {av : Value} (ha : RelC M γ a av) (hf : fOff X.P t f = some n) (hz : Nat.beq (szOf X.P (fTy X.P t f)) 0 = false) (hun : addO a n ≠ .un) :
    ∃ u, (Instr.fieldAt t av f).run X.P w = .ok u w ∧ RelC M γ (addO a n) u := by
  obtain ⟨fs, x, hu, hx, rfl⟩ : ∃ fs x, X.P.underlying t = some (.struct fs) ∧ fs[f]? = some x ∧ x.offset = n := by
    revert hf; simp only [fOff]; split
    · rename_i fs hfs
      split
      · rename_i x hx; intro h; exact ⟨fs, x, hfs, hx, by simpa using h⟩
      · simp
    · simp
  have hty : fTy X.P t f = x.type := by simp [fTy, hu, hx]
  have hsz : ∃ i, X.P.info? x.type = some i ∧ i.size ≠ 0 := by
    rw [hty] at hz
    simp only [szOf] at hz
    cases hi : X.P.info? x.type with
    | none => simp [hi] at hz
    | some i => exact ⟨i, rfl, fun h0 => by rw [hi] at hz; simp [h0] at hz⟩
  obtain ⟨i, hi, hi0⟩ := hsz
  have run : ∀ a : Addr, (Instr.fieldAt t (.pointer (some a)) f).run X.P w = .ok (.pointer (some (a.add x.offset))) w := by
    intro a
    simp [Instr.fieldAt, run_underlying hu, hx, Instr.sureAddr, fieldPlace, run_size hi, hi0]
  cases a with
  | pv k c =>
    obtain ⟨h1, rfl⟩ := ha
    exact ⟨_, run _, h1, by rw [Addr_add]⟩
  | pe r e c =>
    obtain ⟨row, h1, h2, g, o, n, cap, h3, rfl⟩ := ha
    exact ⟨_, run _, row, h1, h2, g, o, n, cap, h3, by rw [Addr_add]; simp [Nat.add_assoc]⟩
  | pn r e c k d =>
    obtain ⟨row, τ, ys, u, h1, h2, h3, h4, h5, g, o, n, cap, h6, rfl⟩ := ha
    exact ⟨_, run _, row, τ, ys, u, h1, h2, h3, h4, h5, g, o, n, cap, h6, by rw [Addr_add]; simp [Nat.add_assoc]⟩
  | _ => simp [addO] at hun
/-! ### loading -/
theorem RelL.length {l : List Cv} {u : List Value} (h : RelL M γ l u) : l.length = u.length := by
  induction h with
  | nil => rfl
  | cons _ _ ih => simp [ih]
theorem RelL.drop {l : List Cv} {u : List Value} (h : RelL M γ l u) : ∀ n, RelL M γ (l.drop n) (u.drop n) := by
  induction h with
  | nil => intro n; simpa using RelL.nil
  | cons hx hl ih => intro n; cases n with
    | zero => exact .cons hx hl
    | succ n => simpa using ih n
theorem RelL.take {l : List Cv} {u : List Value} (h : RelL M γ l u) : ∀ n, RelL M γ (l.take n) (u.take n) := by
  induction h with
  | nil => intro n; simpa using RelL.nil
  | cons hx hl ih => intro n; cases n with
    | zero => exact .nil
    | succ n => simpa using RelL.cons hx (ih n)
theorem RelL.append {l l' : List Cv} {u u' : List Value} (h : RelL M γ l u) (h' : RelL M γ l' u') : RelL M γ (l ++ l') (u ++ u') := by
  induction h with
  | nil => exact h'
  | cons hx hl ih => exact .cons hx ih
theorem RelL.get {l : List Cv} {u : List Value} (h : RelL M γ l u) {i : Nat} {x : Cv} (hx : l[i]? = some x) : ∃ v, u[i]? = some v ∧ RelC M γ x v := by
  induction h generalizing i with
  | nil => simp at hx
  | cons hx' hl ih => cases i with
    | zero => simp at hx; subst hx; exact ⟨_, rfl, hx'⟩
    | succ i => exact ih hx
theorem RelL.of_get {l : List Cv} : ∀ {u : List Value}, l.length = u.length → (∀ (i : Nat) (x : Cv) (v : Value), l[i]? = some x → u[i]? = some v → RelC M γ x v) → RelL M γ l u := by
  induction l with
  | nil => intro u hl _; cases u with | nil => exact .nil | cons => simp at hl
  | cons x l ih => intro u hl h; cases u with
    | nil => simp at hl
    | cons v u => exact .cons (h 0 x v rfl rfl) (ih (by simpa using hl) fun i x v hx hv => h (i + 1) x v hx hv)

theorem cell_block {g o : Nat} {cur : Array Value} {e : TypeId} {fz : Nat × Nat} (h : w.heap[g]? = some (.cells cur e fz)) (i : Nat) : w.cell? ⟨g, i, none⟩ = cur[i]? := by
  simp [World.cell?, h]

theorem SlF.cell {A : Nat → Prop} {z : Nat} {v : Value} {n : Nat} {cs : List Value} (h : SlF A w z v n cs) {g o n' cap : Nat} (hv : v = .slice (some ⟨g, o, none⟩) n' cap) {i : Nat} {u : Value}
    (hu : cs[i]? = some u) : w.cell? ⟨g, o + i, none⟩ = some u := by
  rcases h.2 with ⟨hn, _⟩ | ⟨g1, o1, cap1, cur, e, fz, hv1, hg, _, _, hsz, ht⟩
  · rw [hn] at hv; cases hv
  · rw [hv1] at hv
    obtain ⟨rfl, rfl⟩ : g1 = g ∧ o1 = o := by
      injection hv with h1 _ _; injection h1 with h1; injection h1 with h1 h2 _; exact ⟨h1, h2⟩
    have hi : i < n * z := by
      have := (List.getElem?_eq_some_iff.1 hu).1
      rwa [h.1] at this
    rw [cell_block (o := 0) hg, ← hu, ← ht, List.getElem?_take, if_pos hi, List.getElem?_drop, Array.getElem?_toList]

theorem cvsOf_get (r e : Nat) : ∀ (l : List Ct) (c i : Nat), (cvsOf r e c l)[i]? = (l[i]?).map (cvOf r e (c + i)) := by
  intro l
  induction l with
  | nil => intro c i; simp [cvsOf]
  | cons x l ih => intro c i; cases i with
    | zero => simp [cvsOf]
    | succ i => simp [cvsOf, ih, Nat.add_assoc, Nat.add_comm 1]
theorem cvsOf_length (r e : Nat) : ∀ (l : List Ct) (c : Nat), (cvsOf r e c l).length = l.length := by
  intro l
  induction l with
  | nil => intro c; rfl
  | cons x l ih => intro c; simp [cvsOf, ih]

/-- the cells of an element, as they are -/
theorem row_cells (hR : Rel X M γ w) {r e : Nat} {row : Row} (hr : M.r r = some row) (he : e < row.xs.length) :
    RelL M γ (cvsOf r e 0 (row.cs e)) (((γ.cv r).drop (e * sz row.τ)).take (sz row.τ)) := by
  have hl : (γ.cv r).length = row.xs.length * sz row.τ := (hR.rs r row hr).top.slF.1
  have hle : (e + 1) * sz row.τ ≤ row.xs.length * sz row.τ := Nat.mul_le_mul_right _ he
  rw [Nat.add_mul] at hle
  have hcl : (row.cs e).length = sz row.τ := cells_length _ _
  apply RelL.of_get
  · rw [cvsOf_length, hcl, List.length_take, List.length_drop]; omega
  · intro i x v hx hv
    rw [cvsOf_get, Nat.zero_add] at hx
    cases hc : (row.cs e)[i]? with
    | none => simp [hc] at hx
    | some ct =>
      simp [hc] at hx; subst hx
      obtain ⟨u, hu, hcr⟩ := (hR.rs r row hr).cel e i ct he hc
      have hi : i < sz row.τ := by have := (List.getElem?_eq_some_iff.1 hc).1; rwa [hcl] at this
      have : v = u := by
        rw [List.getElem?_take, if_pos hi, List.getElem?_drop, hu] at hv; exact (Option.some.inj hv).symm
      subst this
      cases ct with
      | u => exact hcr.elim
      | l τ ys => exact ⟨row, τ, ys, hr, he, hc, hu⟩
      | _ => exact hcr
theorem flat_cells {τ : Ty} (hd : τ.deep = false) (y : El τ) : RelL M γ (cvsOf 0 0 0 (cells τ y)) ((cells τ y).map ctVal) := by
  apply RelL.of_get
  · rw [cvsOf_length, List.length_map]
  · intro i x v hx hv
    rw [cvsOf_get] at hx
    rw [List.getElem?_map] at hv
    cases hc : (cells τ y)[i]? with
    | none => simp [hc] at hx
    | some ct =>
      simp [hc] at hx hv; subst hx; subst hv
      have hm := List.mem_of_getElem? hc
      cases ct with
      | u => exact absurd hm (cells_nou _)
      | l σ ys => exact absurd rfl (cells_flat hd _ _ hm σ ys)
      | _ => rfl

/-- what is behind an address -/
theorem from_ok (hm : Le m M) (hR : Rel X M γ w) {a : Cv} {av : Value} (ha : RelC M γ a av) {cs : List Cv} (h : m.from a = some cs) :
    ∃ g o us, av = .pointer (some ⟨g, o, none⟩) ∧ RelL M γ cs us ∧ ∀ j u, us[j]? = some u → w.cell? ⟨g, o + j, none⟩ = some u := by
  cases a with
  | pv k c =>
    simp only [Lk.from] at h
    cases hv : m.v k with
    | none => simp [hv] at h
    | some cells =>
      simp only [hv, Option.some.injEq] at h; subst h
      obtain ⟨_, rfl⟩ := ha
      obtain ⟨_, cur, e, hg, hrel⟩ := hR.vs k cells (hm.v k cells hv)
      refine ⟨_, _, cur.toList.drop c, rfl, hrel.drop c, fun j u hu => ?_⟩
      rw [cell_block (o := 0) hg]; simpa using hu
  | pe r e c =>
    simp only [Lk.from] at h
    cases hr : m.r r with
    | none => simp [hr] at h
    | some row =>
      simp only [hr, Option.some.injEq] at h; subst h
      obtain ⟨row', hr', he, g, o, n, cap, hb, rfl⟩ := ha
      have hr2 := hm.r r row hr
      rw [hr2] at hr'; cases hr'
      refine ⟨_, _, _, rfl, (row_cells hR hr2 he).drop c, fun j u hu => ?_⟩
      rw [List.getElem?_drop, List.getElem?_take] at hu
      split at hu
      · rw [List.getElem?_drop] at hu
        have := (hR.rs r row hr2).top.slF.cell hb hu
        rw [← this]; congr 2; omega
      · cases hu
  | pn r e c k d =>
    simp only [Lk.from, Lk.vw, nth_eq] at h
    cases hr : m.r r with
    | none => simp [hr] at h
    | some row =>
      obtain ⟨row', τ', ys, u, hr', he, hc, hu, hk, g, o, n, cap, hb, rfl⟩ := ha
      have hr2 := hm.r r row hr
      rw [hr2] at hr'; cases hr'
      simp only [hr, hc] at h
      obtain ⟨u', hu', hd, hs⟩ := (hR.rs r row hr2).cel e c _ he hc
      rw [hu] at hu'; cases hu'
      simp only [hd, Option.some.injEq] at h; subst h
      refine ⟨_, _, _, rfl, (flat_cells hd _).drop d, fun j v hv => ?_⟩
      rw [List.getElem?_drop, List.getElem?_map] at hv
      cases hct : (cells τ' (ys.getD k (dflt τ')))[d + j]? with
      | none => rw [hct] at hv; simp at hv
      | some ct =>
        have hdj : d + j < sz τ' := by have := (List.getElem?_eq_some_iff.1 hct).1; rwa [cells_length] at this
        have hf := getElem?_flatMap_cells τ' ys k (d + j) hk hdj
        rw [hct] at hf hv
        simp at hv; subst hv
        have := hs.slF.cell hb hf
        rw [← this]; congr 2; omega
  | _ => simp [Lk.from] at h

theorem info_of_und {P : Program} {t : TypeId} {d : TypeDesc} (h : P.underlying t = some d) : ∃ i, P.info? t = some i := by
  cases hi : P.info? t with
  | some i => exact ⟨i, rfl⟩
  | none => exfalso; revert h; simp [Program.underlying, hi]

theorem isAg_run {P : Program} {t : TypeId} {w : World} {i : TypeInfo} (hi : P.info? t = some i) (hu : ∃ d, P.underlying t = some d) : (isAgg t).run P w = .ok (isAg P t) w := by
  obtain ⟨d, hd⟩ := hu
  simp only [isAgg, Sem.run_bind, run_underlying hd, Result.andThen_ok, isAg, hd]
  cases d <;> rfl

theorem ldOk_inv {P : Program} {t : TypeId} (h : ldOk P t = true) : (∃ d, P.underlying t = some d) ∧ (isAg P t = false → szOf P t = 1) := by
  simp only [ldOk] at h
  simp only [isAg]
  cases hd : P.underlying t with
  | none => simp [hd] at h
  | some d =>
    refine ⟨⟨d, rfl⟩, fun ha => ?_⟩
    rw [hd] at h
    cases d <;> first | (exact nat_beq h) | (simp at ha)

theorem load_ok (hm : Le m M) (hR : Rel X M γ w) {t : TypeId} {a : Cv} {av : Value} (ha : RelC M γ a av) {cs : List Cv} (h : m.from a = some cs) (hz : Nat.ble (szOf X.P t) cs.length = true)
    (hld : ldOk X.P t = true) : ∃ u, (Instr.loadAt t av).run X.P w = .ok u w ∧ RelA M γ (mkA (isAg X.P t) (cs.take (szOf X.P t))) u := by
  obtain ⟨g, o, us, rfl, hrel, hcell⟩ := from_ok hm hR ha h
  obtain ⟨⟨d, hd⟩, hone⟩ := ldOk_inv hld
  obtain ⟨i, hi⟩ := info_of_und hd
  have hsz : szOf X.P t = i.size := by simp [szOf, hi]
  have hz : szOf X.P t ≤ cs.length := Nat.le_of_ble_eq_true hz
  rw [hsz] at hz hone ⊢
  have hlen := hrel.length
  simp only [Instr.loadAt, Instr.sureAddr, loadVar, Sem.run_bind, Sem.run_pure, Result.andThen_ok, isAg_run hi ⟨d, hd⟩]
  cases hag : isAg X.P t with
  | true =>
    simp only [if_true, Sem.run_bind, run_size hi, Result.andThen_ok]
    have hload : (loadCells ⟨g, o, none⟩ i.size).run X.P w = .ok (us.take i.size).toArray w := by
      have := run_loadCells_list (P := X.P) w ⟨g, o, none⟩ (us.take i.size) (fun j v hj => by
        rw [Addr_add]
        rw [List.getElem?_take] at hj
        split at hj
        · exact hcell j v hj
        · cases hj)
      rwa [show (us.take i.size).length = i.size by rw [List.length_take]; omega] at this
    rw [hload]
    exact ⟨_, rfl, _, rfl, hrel.take _⟩
  | false =>
    simp only [Bool.false_eq_true, if_false]
    have h1 := hone hag
    rw [h1] at hz ⊢
    cases us with
    | nil => simp at hlen; subst hlen; simp at hz
    | cons u us =>
      cases hrel with
      | cons hx hl =>
        refine ⟨u, ?_, RelA.of hx⟩
        have := hcell 0 u rfl
        rw [Nat.add_zero] at this
        simp [this]


theorem SlcV.one {v : Value} {n : Nat} (h : SlcV v n) : v.oneCell' = true := by
  rcases h with ⟨rfl, rfl⟩ | ⟨g, o, cap, rfl, _⟩ <;> rfl
theorem RelC.one (hR : Rel X M γ w) {x : Cv} {v : Value} (h : RelC M γ x v) : v.oneCell' = true := by
  cases x with
  | un => exact h
  | b x => have h : v = _ := h; subst h; rfl
  | i k n => have h : v = _ := h; subst h; rfl
  | s x => have h : v = _ := h; subst h; rfl
  | nl τ => have h : v = _ := h; subst h; rfl
  | sw r => obtain ⟨⟨row, hr⟩, rfl⟩ := h; exact (hR.rs r row hr).top.slF.slcV.one
  | sl r off len => obtain ⟨_, _, _, hs⟩ := h; exact (SlcV.sub (n := 0) hs).one
  | nw r e c =>
    obtain ⟨row, τ, ys, hr, he, hc, hu⟩ := h
    obtain ⟨u', hu', hcell⟩ := (hR.rs r row hr).cel e c _ he hc
    rw [hu] at hu'; cases hu'
    exact hcell.2.slF.slcV.one
  | ns r e c off len => obtain ⟨_, _, _, _, _, _, _, _, _, hs⟩ := h; exact (SlcV.sub (n := 0) hs).one
  | pv k c => obtain ⟨_, rfl⟩ := h; rfl
  | pe r e c => obtain ⟨_, _, _, _, _, _, _, _, rfl⟩ := h; rfl
  | pn r e c k d => obtain ⟨_, _, _, _, _, _, _, _, _, _, _, _, _, _, rfl⟩ := h; rfl
  | fn f caps => obtain ⟨_, rfl⟩ := h; rfl
theorem one_cells {v : Value} (h : v.oneCell' = true) : v.cells = #[v] := by cases v <;> first | rfl | simp [Value.oneCell'] at h

/-- an operand's cells -/
theorem cells_ok (hR : Rel X M γ w) {x : AV} {v : Value} {cs : List Cv} (hx : RelA M γ x v) (h : x.cells = some cs) : RelL M γ cs v.cells.toList := by
  cases x with
  | c y =>
    have : y ≠ .un ∧ cs = [y] := by cases y <;> simp_all [AV.cells]
    obtain ⟨hy, rfl⟩ := this
    have hy := RelA.to hx hy
    rw [one_cells (hy.one hR)]
    exact .cons hy .nil
  | a l =>
    simp only [AV.cells, Option.some.injEq] at h; subst h
    obtain ⟨us, rfl, hr⟩ := hx
    simpa [Value.cells] using hr
  | _ => simp [AV.cells] at h
theorem RelL.one (hR : Rel X M γ w) {l : List Cv} {u : List Value} (h : RelL M γ l u) : ∀ v ∈ u, v.oneCell' = true := by
  induction h with
  | nil => simp
  | cons hx hl ih => intro v hv; rcases List.mem_cons.1 hv with rfl | hv; exact hx.one hR; exact ih v hv

theorem field_val {t : TypeId} {f n : Nat} {l : List Cv} {xv : Value} (hx : RelA M γ (.a l) xv) (hf : fOff X.P t f = some n)
    (hz : Nat.ble (n + szOf X.P (fTy X.P t f)) l.length = true) (hld : ldOk X.P (fTy X.P t f) = true) :
    ∃ u, (Instr.field t xv f).run X.P w = .ok u w ∧ RelA M γ (mkA (isAg X.P (fTy X.P t f)) ((l.drop n).take (szOf X.P (fTy X.P t f)))) u := by
  obtain ⟨fs, x, hu, hx', rfl⟩ : ∃ fs x, X.P.underlying t = some (.struct fs) ∧ fs[f]? = some x ∧ x.offset = n := by
    revert hf; simp only [fOff]; split
    · rename_i fs hfs
      split
      · rename_i x hx; intro h; exact ⟨fs, x, hfs, hx, by simpa using h⟩
      · simp
    · simp
  have hty : fTy X.P t f = x.type := by simp [fTy, hu, hx']
  rw [hty] at hz hld ⊢
  obtain ⟨⟨d, hd⟩, hone⟩ := ldOk_inv hld
  obtain ⟨i, hi⟩ := info_of_und hd
  have hsz : szOf X.P x.type = i.size := by simp [szOf, hi]
  have hz : x.offset + szOf X.P x.type ≤ l.length := Nat.le_of_ble_eq_true hz
  rw [hsz] at hz hone ⊢
  obtain ⟨us, rfl, hrel⟩ := hx
  have hlen := hrel.length
  simp only [Instr.field, Sem.run_bind, run_underlying hu, Result.andThen_ok, hx', asAgg, Sem.run_pure, part, isAg_run hi ⟨d, hd⟩]
  cases hag : isAg X.P x.type with
  | true =>
    simp only [if_true, Sem.run_bind, run_size hi, Result.andThen_ok, Sem.run_pure]
    refine ⟨_, rfl, ((us.drop x.offset).take i.size), ?_, (hrel.drop _).take _⟩
    congr 1
    apply Array.toList_inj.1
    simp [List.extract_eq_take_drop]
  | false =>
    simp only [Bool.false_eq_true, if_false]
    rw [hone hag] at hz ⊢
    have h2 := (hrel.drop x.offset)
    have h3 : (l.drop x.offset).length = l.length - x.offset := List.length_drop
    cases hdl : l.drop x.offset with
    | nil => rw [hdl] at h3; simp at h3; omega
    | cons y rest =>
      rw [hdl] at h2
      cases hdu : us.drop x.offset with
      | nil => rw [hdu] at h2; cases h2
      | cons u us' =>
        rw [hdu] at h2
        cases h2 with
        | cons hy _ =>
          have : us[x.offset]? = some u := by
            have := congrArg (fun l => l[0]?) hdu
            simpa [List.getElem?_drop] using this
          refine ⟨u, by simp [this], RelA.of hy⟩

theorem nth_val {l : List (Bool × List Cv)} {us : List Value} (h : RelTs M γ l us) {i : Nat} {p : Bool × List Cv} (hp : l[i]? = some p) : ∃ u, us[i]? = some u ∧ RelP M γ p u := by
  induction h generalizing i with
  | nil => simp at hp
  | cons hx hl ih => cases i with
    | zero => simp at hp; subst hp; exact ⟨_, rfl, hx⟩
    | succ i => exact ih hp
theorem extract_ok {l : List (Bool × List Cv)} {xv : Value} (hx : RelA M γ (.t l) xv) {i : Nat} {b : Bool} {cs : List Cv} (h : nth l i = some (b, cs)) :
    ∃ u, (Instr.extract xv i).run X.P w = .ok u w ∧ RelA M γ (mkA b cs) u := by
  obtain ⟨us, rfl, hr⟩ := hx
  rw [nth_eq] at h
  obtain ⟨u, hu, vs, hv, h1, h2⟩ := nth_val hr h
  refine ⟨u, by simp [Instr.extract, hu], ?_⟩
  cases b with
  | true => exact ⟨vs, h1 rfl, hv⟩
  | false =>
    have := h2 rfl
    subst this
    cases hv with
    | cons hx hl => cases hl; exact RelA.of hx

theorem len_str {t ty : TypeId} {a : ByteArray} (ht : isStr X.P t = true) : (Builtin.len_ #[t] (ty : TypeId) #[.string a]).run X.P w = .ok (.int .i64 a.size) w := by
  have hst : X.P.underlying t = some .string := by
    revert ht; simp only [isStr]; split
    · exact fun _ => by assumption
    · simp
  simp [Builtin.len_, run_underlying hst, goInt]
theorem len_slc {t ty : TypeId} {a : Option Addr} {n cap : Nat} (ht : isSlc X.P t = true) : (Builtin.len_ #[t] (ty : TypeId) #[.slice a n cap]).run X.P w = .ok (.int .i64 n) w := by
  obtain ⟨e, he⟩ : ∃ e, X.P.underlying t = some (.slice e) := by
    revert ht; simp only [isSlc]; split
    · exact fun _ => ⟨_, by assumption⟩
    · simp
  simp [Builtin.len_, run_underlying he, goInt]
theorem SlcV.slice {v : Value} {n : Nat} (h : SlcV v n) : ∃ a cap, v = .slice a n cap := by
  rcases h with ⟨rfl, rfl⟩ | ⟨g, o, cap, rfl, _⟩
  · exact ⟨_, _, rfl⟩
  · exact ⟨_, _, rfl⟩

theorem index_str {t : TypeId} {a : ByteArray} {k : IntKind} {i : Int} (ht : isStr X.P t = true) (hi : inR i a.size = true) : (Instr.index t (.string a) (.int k i)).run X.P w = .ok (.int .u8 (bt a i.toNat)) w := by
  have hst : X.P.underlying t = some .string := by
    revert ht; simp only [isStr]; split
    · exact fun _ => by assumption
    · simp
  simp only [inR, Bool.and_eq_true, decide_eq_true_eq] at hi
  have h1 : i.toNat < a.size := by omega
  have h2 : a[i.toNat]? = some a[i.toNat] := getElem?_pos a i.toNat h1
  simp [Instr.index, asIntOf, run_underlying hst, hi.1, h2]
  have h3 : i.toNat < a.data.size := h1
  simp only [bt, Array.getD, dif_pos h3]
  rfl

theorem unOp_ok {op : UnOp} {x : AV} {xv : Value} {v : AV} (hx : RelA M γ x xv) (h : Good (unO op x) v) : ∃ u, (Op.unary op xv).run X.P w = .ok u w ∧ RelA M γ v u := by
  cases op <;> cases x <;> try (simp [unO, Good] at h; done)
  case not.c x =>
    cases x <;> simp [unO, Good] at h
    subst h; have hx : xv = .bool _ := hx; subst hx; exact ⟨_, rfl, rfl⟩
  case neg.c x =>
    cases x <;> simp [unO, Good] at h
    subst h; have hx : xv = .int _ _ := hx; subst hx; exact ⟨_, rfl, by show _ = _; simp⟩

theorem conv_int_ok {t u : TypeId} {k k' : IntKind} {n : Int} {du dt : TypeDesc} (ht : X.P.underlying t = some dt) (hu : X.P.underlying u = some (.int k)) :
    (convert t u (.int k' n)).run X.P w = .ok (.int k (k.wrap n)) w := by
  simp only [convert, Sem.run_bind, run_underlying ht, run_underlying hu, Result.andThen_ok]
  cases dt <;> rfl
/-! ### building -/
theorem repl_length {α : Type} (l m : List α) (c : Nat) (h : c + m.length ≤ l.length) : (repl l c m).length = l.length := by
  simp [repl]; omega
theorem RelL.repl {l l' : List Cv} {u u' : List Value} (h : RelL M γ l u) (h' : RelL M γ l' u') (c : Nat) : RelL M γ (Soft.repl l c l') (Soft.repl u c u') := by
  simp only [Soft.repl, ← h'.length]
  exact ((h.take _).append h').append (h.drop _)

theorem fold_set (off : Nat) : ∀ (vs : List Value) (k : Nat) (acc : Array Value), off + k + vs.length ≤ acc.size →
    ((vs.zipIdx k).foldl (fun cs (p : Value × Nat) => cs.setIfInBounds (off + p.2) p.1) acc).toList = Soft.repl acc.toList (off + k) vs := by
  intro vs
  induction vs with
  | nil => intro k acc h; simp [Soft.repl]
  | cons v vs ih =>
    intro k acc h
    simp only [List.zipIdx_cons, List.foldl_cons, List.length_cons] at h ⊢
    rw [ih (k + 1) _ (by simp; omega)]
    simp only [Soft.repl, Array.toList_setIfInBounds, List.length_cons]
    have h1 : off + k < acc.toList.length := by simp; omega
    apply List.ext_getElem?
    intro i
    simp only [List.getElem?_append, List.length_append, List.length_take, List.length_set, List.length_cons, List.getElem?_take, List.getElem?_drop, List.getElem?_set]
    rcases Nat.lt_trichotomy i (off + k) with hi | hi | hi
    · simp [show i < min (off + (k + 1)) acc.toList.length by omega, show i < off + (k + 1) by omega, show i < off + k by omega, show i < min (off + k) acc.toList.length by omega, show ¬ off + k = i by omega]
      grind
    · subst hi
      simp [show off + k < min (off + (k + 1)) acc.toList.length by omega, show ¬ off + k < min (off + k) acc.toList.length by omega]
      grind
    · grind

theorem zEq_ok {x : Cv} {v : Value} (h : zEq x v = true) : RelC M γ x v := by
  cases x <;> cases v <;> simp_all [zEq, RelC, Value.oneCell']
  case b x y => cases x <;> cases y <;> simp_all [zEq]
  case i k n k' n' =>
    obtain ⟨h1, h2⟩ := h
    have := kEq_eq h1
    split at h2
    · rename_i h3 h4; exact ⟨this.symm, rfl⟩
    · cases h2
  case nl τ a n c =>
    revert h; cases a <;> cases n <;> cases c <;> simp [zEq]
theorem zEqs_ok {l : List Cv} : ∀ {u : List Value}, zEqs l u = true → RelL M γ l u := by
  induction l with
  | nil => intro u h; cases u with | nil => exact .nil | cons => simp [zEqs] at h
  | cons x l ih => intro u h; cases u with
    | nil => simp [zEqs] at h
    | cons v u => simp only [zEqs, Bool.and_eq_true] at h; exact .cons (zEq_ok h.1) (ih h.2)
theorem zero_ok {t : TypeId} {cs : List Cv} (h : X.zero t = some cs) : ∃ i z, X.P.info? t = some i ∧ i.zero = some z ∧ RelL M γ cs z.cells.toList := by
  simp only [Ctx.zero] at h
  revert h; split
  · rename_i cs' i h1 h2
    split
    · rename_i z hz
      split
      · rename_i hq; intro h; cases h; exact ⟨i, z, h2, hz, zEqs_ok hq⟩
      · simp
    · simp
  · simp

theorem fill_ok (hR : Rel X M γ w) {t : TypeId} {f : Operand → AV} (hf : ∀ o, RelA M γ (f o) (ρ o)) {place : Nat → Option (Nat × Nat)}
    (hp : ∀ i off, fOff X.P t i = some off → place i = some (off, szOf X.P (fTy X.P t i))) :
    ∀ (parts : List (Nat × Operand)) (acc cs : List Cv) (zs : Array Value), RelL M γ acc zs.toList → fillP X t f parts acc = some cs →
      ∃ arr, Instr.fill place zs (parts.map fun p => (p.1, ρ p.2)) = some arr ∧ RelL M γ cs arr.toList := by
  intro parts
  induction parts with
  | nil => intro acc cs zs hz h; simp only [fillP, Option.some.injEq] at h; subst h; exact ⟨zs, rfl, hz⟩
  | cons p parts ih =>
    obtain ⟨i, o⟩ := p
    intro acc cs zs hz h
    simp only [fillP] at h
    cases ho : fOff X.P t i with
    | none => simp [ho] at h
    | some off =>
      cases hc : (f o).cells with
      | none => simp [ho, hc] at h
      | some cs' =>
        simp only [ho, hc] at h
        cases h1 : Nat.ble (off + cs'.length) acc.length with
        | false => simp [h1] at h
        | true =>
          cases h2 : Nat.beq cs'.length (szOf X.P (fTy X.P t i)) with
          | false => simp [h1, h2] at h
          | true =>
            simp only [h1, h2] at h
            have h1 := Nat.le_of_ble_eq_true h1
            have h2 := nat_beq h2
            have hr := cells_ok hR (hf o) hc
            have hl := hr.length
            have hz' := hz.length
            simp only [Array.length_toList] at hl hz'
            simp only [List.map_cons, Instr.fill, hp i off ho]
            rw [if_neg (by simp; omega)]
            apply ih _ _ _ _ h
            have := fold_set off (ρ o).cells.toList 0 zs (by simp; omega)
            rw [Nat.add_zero] at this
            have e : (Array.foldl (fun cs (x : Value × Nat) => cs.setIfInBounds (off + x.2) x.1) zs (ρ o).cells.zipIdx).toList = Soft.repl zs.toList off (ρ o).cells.toList := by
              rw [← this, ← Array.foldl_toList, Array.toList_zipIdx]
            rw [e]
            exact hz.repl hr off

theorem places_ok {P : Program} : ∀ (fs : List Field), plAll P fs = true → fs.mapM (fun f => (P.info? f.type).map fun i => (f.offset, i.size)) = some (fs.map fun f => (f.offset, szOf P f.type))
  | [], _ => rfl
  | f :: fs, h => by
    simp only [plAll] at h
    cases hi : P.info? f.type with
    | none => simp [hi] at h
    | some i =>
      simp only [hi] at h
      simp [List.mapM_cons, hi, places_ok fs h, szOf]

theorem build_ok (hR : Rel X M γ w) {t : TypeId} {parts : Array (Nat × Operand)} {f : Operand → AV} (hf : ∀ o, RelA M γ (f o) (ρ o)) {zs cs : List Cv} (hz : X.zero t = some zs) (hp : plOk X.P t = true)
    (h : fillP X t f parts.toList zs = some cs) : ∃ u, (Instr.build t (parts.map fun (i, x) => (i, ρ x))).run X.P w = .ok u w ∧ RelA M γ (.a cs) u := by
  obtain ⟨i, z, hi, hzz, hr⟩ := zero_ok (M := M) (γ := γ) hz
  obtain ⟨fs, hu, hpl⟩ : ∃ fs, X.P.underlying t = some (.struct fs) ∧ plAll X.P fs.toList = true := by
    revert hp; simp only [plOk]; split
    · rename_i fs hfs; exact fun h => ⟨fs, hfs, h⟩
    · simp
  have hplace : ∀ i off, fOff X.P t i = some off → ((fs.toList.map fun f => (f.offset, szOf X.P f.type)).toArray[i]?) = some (off, szOf X.P (fTy X.P t i)) := by
    intro i off ho
    simp only [fOff, hu] at ho
    cases hx : fs[i]? with
    | none => simp [hx] at ho
    | some x =>
      simp only [hx, Option.some.injEq] at ho
      simp [fTy, hu, hx, ho]
  obtain ⟨arr, ha, hrel⟩ := fill_ok hR hf hplace parts.toList zs cs z.cells hr h
  refine ⟨.agg arr, run_build w t _ arr ?_, arr.toList, by simp, hrel⟩
  simp only [Program.built, hi, hu, hzz, places_ok _ hpl]
  rw [← ha, Array.toList_map]

theorem opnd_ok {S : St} {a : Act} (hT : ∀ t av, lk S.tm t = some av → RelA M γ av (a.tmps.getD t undef)) (p : List (Nat × Bool))
    (hp : ∀ t p' q v, lk S.tm t = some (.g p' q v) → isPre p' p = true → q = true) (ty : TypeId) (o : Operand) : RelA M γ (X.opnd S p ty o) (a.eval o) := by
  cases o with
  | tmp t =>
    simp only [Ctx.opnd, St.get, Act.eval]
    cases h : lk S.tm t with
    | none => exact trivial
    | some av =>
      have hr := hT t av h
      cases av with
      | g p' q v =>
        simp only
        cases hi : isPre p' p with
        | true => simp only [hi]; exact hr.1 (hp t p' q v h hi)
        | false => simp only [hi]; exact trivial
      | _ => exact hr
  | const v =>
    simp only [Ctx.opnd, Act.eval]
    cases v <;> simp only [Ctx.cst] <;> first | exact trivial | rfl | skip
    rename_i a n c
    cases a <;> try exact trivial
    cases n <;> cases c <;> try exact trivial
    cases hτ : X.elTy ty <;> simp only [hτ] <;> first | exact trivial | rfl
  | func f => exact ⟨by simp, by simp [Act.eval]⟩
  | global g => exact trivial

end Go.Soft
