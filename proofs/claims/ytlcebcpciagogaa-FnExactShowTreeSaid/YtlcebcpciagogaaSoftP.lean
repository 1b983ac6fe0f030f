/-
  SoftP: what a function promises, and what it is given.
-/
import Derived.Test.YtlcebcpciagogaaSoftO
set_option linter.constructorNameAsVariable false
set_option linter.unusedSimpArgs false
set_option linter.unusedVariables false
namespace Go.Soft
open Go
variable {X : Ctx} {m M : Lk} {γ γ' : Gh} {w w' : World} {ρ : Operand → Value} {S : St} {δ : Dl}

inductive RelAs (m : Lk) (γ : Gh) : List AV → List Value → Prop
  | nil : RelAs m γ [] []
  | cons {x : AV} {v : Value} {l : List AV} {u : List Value} : RelA m γ x v → RelAs m γ l u → RelAs m γ (x :: l) (v :: u)

/-- what a function is given -/
structure Pre (X : Ctx) (g : Sig) (acs : List AC) (vin : List (List Ct)) (γ : Gh) (w : World) (args : List Value) : Prop where
  rel : Rel X (entry g acs vin).lk γ w
  top : ∀ b, w.heap.size ≤ b → γ.O b = none
  args : RelAs (entry g acs vin).lk γ (entA g.am 0 acs).1 args

/-- a new slice, or nil -/
def NewR (X : Ctx) (O : OM) (w : World) (md : Nat) (τ : Ty) (xs : List (El τ)) (v : Value) (ks : List Nat) : Prop :=
  (xs = [] ∧ v = .slice none 0 0 ∧ ks = []) ∨ ∃ key cs, ks = [key] ∧ RowR X O w key ⟨τ, xs, md⟩ v cs
/-- e0: the state at the beginning; γ0: its ghosts; K: the rows that are handed back -/
def RelRc (X : Ctx) (e0 : Lk) (γ0 : Gh) (K : List Nat) (O : OM) (w : World) (md : Nat) : Rc → Value → List Nat → Prop
  | .c (.l τ xs), v, ks => hdK md = true ∧ NewR X O w md τ xs v ks
  | .c .u, v, ks => ks = [] ∧ v.oneCell' = true
  | .c ct, v, ks => ks = [] ∧ v = ctVal ct
  | .m ct, v, ks => ks = [] ∧ v.oneCell' = true ∧ CtV (fun g => ∃ r, r ∉ K ∧ Fam r (O g)) w ct v
  | .al p j e c, v, ks => ks = [] ∧ ∃ row τ ys, j < 64 ∧ 100000 + p * 64 + j < 200000 ∧ e0.r (100000 + p * 64 + j) = some row ∧ e < row.xs.length ∧ (row.cs e)[c]? = some (.l τ ys) ∧ (γ0.cv (100000 + p * 64 + j))[e * sz row.τ + c]? = some v
  | .aw p j, v, ks => ks = [] ∧ ∃ row, j < 64 ∧ 100000 + p * 64 + j < 200000 ∧ e0.r (100000 + p * 64 + j) = some row ∧ v = γ0.rv (100000 + p * 64 + j)
  | .un, v, ks => ks = [] ∧ v.oneCell' = true
inductive RelRcs (X : Ctx) (e0 : Lk) (γ0 : Gh) (K : List Nat) (O : OM) (w : World) : List Nat → List Rc → List Value → List Nat → Prop
  | nil {ms : List Nat} : RelRcs X e0 γ0 K O w ms [] [] []
  | cons {ms : List Nat} {y : Rc} {v : Value} {k : List Nat} {ys : List Rc} {vs : List Value} {ks : List Nat} : RelRc X e0 γ0 K O w (hd ms) y v k → RelRcs X e0 γ0 K O w (tl ms) ys vs ks →
      RelRcs X e0 γ0 K O w ms (y :: ys) (v :: vs) (k ++ ks)
inductive RelRts (X : Ctx) (e0 : Lk) (γ0 : Gh) (K : List Nat) (O : OM) (w : World) : List (List Nat) → List (Bool × List Rc) → List Value → List Nat → Prop
  | nil {ms : List (List Nat)} : RelRts X e0 γ0 K O w ms [] [] []
  | cons {ms : List (List Nat)} {b : Bool} {l : List Rc} {us : List Value} {v : Value} {k : List Nat} {ys : List (Bool × List Rc)} {vs : List Value} {ks : List Nat} : RelRcs X e0 γ0 K O w (hdL ms) l us k →
      (b = true → v = .agg us.toArray) → (b = false → us = [v]) → RelRts X e0 γ0 K O w (tl ms) ys vs ks → RelRts X e0 γ0 K O w ms ((b, l) :: ys) (v :: vs) (k ++ ks)
def RelRes (X : Ctx) (e0 : Lk) (γ0 : Gh) (K : List Nat) (O : OM) (w : World) (rl : List (List Nat)) : RC → Value → List Nat → Prop
  | .u, v, ks => ks = [] ∧ v = .tuple #[]
  | .c x, v, ks => RelRc X e0 γ0 K O w (hd (hdL rl)) x v ks
  | .a l, v, ks => ∃ us, v = .agg us.toArray ∧ RelRcs X e0 γ0 K O w (hdL rl) l us ks
  | .t l, v, ks => ∃ us, v = .tuple us.toArray ∧ RelRts X e0 γ0 K O w rl l us ks
  | .np l, v, ks => ∃ cv g cur e, 1000 ≤ cv ∧ v = .pointer (some ⟨g, 0, none⟩) ∧ O g = some (.v cv) ∧ w.heap[g]? = some (.cells cur e (0, 0)) ∧ RelRcs X e0 γ0 K O w (hdL rl) l cur.toList ks
/-- a variable's cell at the end -/
def RelVc (X : Ctx) (γ0 : Gh) (O : OM) (w : World) (key md : Nat) (y : Ct) (v : Value) (ks : List Nat) : Prop := match md with
  | 0 => ks = [] ∧ v = ctVal y ∧ (match y with | .u => False | .l _ _ => False | _ => True)
  | 1 => ks = [] ∧ v = γ0.rv key
  | md => match y with | .l τ xs => hdK md = true ∧ NewR X O w md τ xs v ks | _ => False
inductive RelVcs (X : Ctx) (γ0 : Gh) (O : OM) (w : World) : Nat → List Nat → List Ct → List Value → List Nat → Prop
  | nil {k : Nat} {ms : List Nat} : RelVcs X γ0 O w k ms [] [] []
  | cons {k : Nat} {ms : List Nat} {y : Ct} {v : Value} {a : List Nat} {ys : List Ct} {vs : List Value} {ks : List Nat} : RelVc X γ0 O w k (hd ms) y v a → RelVcs X γ0 O w (k + 1) (tl ms) ys vs ks →
      RelVcs X γ0 O w k ms (y :: ys) (v :: vs) (a ++ ks)
inductive RelVo (X : Ctx) (γ0 : Gh) (O : OM) (w : World) : Nat → List (List Nat) → List (List Ct) → List Nat → Prop
  | nil {k : Nat} {ms : List (List Nat)} : RelVo X γ0 O w k ms [] []
  | cons {k : Nat} {ms : List (List Nat)} {l : List Ct} {a : List Nat} {vo : List (List Ct)} {ks : List Nat} {cur : Array Value} {e : TypeId} : O (γ0.vb k) = some (.v k) → w.heap[γ0.vb k]? = some (.cells cur e (0, 0)) →
      RelVcs X γ0 O w (300000 + k * 64) (hdL ms) l cur.toList a → RelVo X γ0 O w (k + 1) (tl ms) vo ks → RelVo X γ0 O w k ms (l :: vo) (a ++ ks)
inductive RelIo (X : Ctx) (γ0 : Gh) (O : OM) (w : World) : Nat → List AC → List Ct → List Nat → Prop
  | nil {p : Nat} : RelIo X γ0 O w p [] [] []
  | io {p : Nat} {τ : Ty} {xs xs' : List (El τ)} {cs : List Value} {l : List AC} {ys : List Ct} {ks : List Nat} : RowR X O w (200000 + p * 64) ⟨τ, xs', 5⟩ (γ0.rv (200000 + p * 64)) cs → RelIo X γ0 O w (p + 1) l ys ks →
      RelIo X γ0 O w p (.io τ xs :: l) (.l τ xs' :: ys) ((200000 + p * 64) :: ks)
  | skip {p : Nat} {x : AC} {l : List AC} {ys : List Ct} {ks : List Nat} : (∀ τ xs, x ≠ .io τ xs) → RelIo X γ0 O w (p + 1) l ys ks → RelIo X γ0 O w p (x :: l) ys ks

/-- what a function promises -/
def Post (X : Ctx) (g : Sig) (acs : List AC) (vin : List (List Ct)) (γ0 : Gh) (w0 : World) (cr : CR) (v : Value) (w : World) : Prop :=
  ∃ O ka kb kc, Fr γ0.O w0 O w ∧ (ka ++ (kb ++ kc)).Nodup ∧ RelRes X (entry g acs vin).lk γ0 (ka ++ (kb ++ kc)) O w g.rl cr.res v ka ∧ RelVo X γ0 O w 0 g.vl cr.vo kb ∧ RelIo X γ0 O w 0 acs cr.io kc

/-- it hands on one answer, or none -/
def Uni {α R : Type} (T : (α → Option R) → Option R) : Prop := ∃ o : Option α, ∀ k, T k = o.bind k
structure FnOk {R : Type} (X : Ctx) (g : Sig) (f : FuncId) (F : FunR R) : Prop where
  uni : ∀ acs vin, Uni (F acs vin)
  ok : ∀ (acs : List AC) (vin : List (List Ct)) (cr : CR), (∀ k, F acs vin k = k cr) → ∀ (γ : Gh) (w : World) (args : List Value), Pre X g acs vin γ w args →
    Calls X.P f args.toArray w fun e w' => ∃ v, e = .returned v ∧ Post X g acs vin γ w cr v w'

/-- a function that has a body of Go -/
def Enters (P : Program) (f : FuncId) : Prop := ∃ fn, P.funcs[f]? = some fn ∧ (fn.name == "runtime.NumGoroutine") = false ∧ fn.body.isNone = false
structure EnvOk {R : Type} (X : Ctx) (E : Env R) : Prop where
  fn : ∀ f g, E.sg f = some g → FnOk X g f (E.fn f) ∧ Enters X.P f
  uni : ∀ f acs vin, Uni (E.fn f acs vin)

/-! ### the state at the beginning -/
def md (ms : List Nat) (i : Nat) : Nat := hd (ms.drop i)
def mdL {α : Type} (ms : List (List α)) (i : Nat) : List α := hdL (ms.drop i)
theorem tl_drop {α : Type} (l : List α) (i : Nat) : (tl l).drop i = l.drop (i + 1) := by cases l <;> simp [tl]
theorem md_tl (l : List Nat) (i : Nat) : md (tl l) i = md l (i + 1) := by simp only [md, tl_drop]
theorem mdL_tl {α : Type} (l : List (List α)) (i : Nat) : mdL (tl l) i = mdL l (i + 1) := by simp only [mdL, tl_drop]
theorem md_zero (l : List Nat) : md l 0 = hd l := rfl
theorem mdL_zero {α : Type} (l : List (List α)) : mdL l 0 = hdL l := rfl

def entCell (key : Nat) : Ct → Cv
  | .u => .un | .b x => .b x | .i a n => .i a n | .s x => .s x | .l _ _ => .sw key

theorem entC_get (k w : Nat) : ∀ (ys : List Ct) (ms : List Nat) (j i : Nat), ((entC k w ms j ys).1)[i]? = (ys[i]?).map (entCell (k + j + i))
  | [], ms, j, i => by simp [entC]
  | y :: ys, ms, j, i => by
    have ih := entC_get k w ys (tl ms) (j + 1)
    cases i with
    | zero => cases y <;> simp [entC, entCell]
    | succ i =>
      have := ih i
      cases y <;> simp [entC, this, show k + (j + 1) + i = k + j + (i + 1) by omega]
theorem entC_length (k w : Nat) : ∀ (ys : List Ct) (ms : List Nat) (j : Nat), ((entC k w ms j ys).1).length = ys.length
  | [], ms, j => by simp [entC]
  | y :: ys, ms, j => by have ih := entC_length k w ys (tl ms) (j + 1); cases y <;> simp [entC, ih]
theorem entC_mem (k w : Nat) : ∀ (ys : List Ct) (ms : List Nat) (j : Nat) (key : Nat) (row : Row), (key, row) ∈ (entC k w ms j ys).2 ↔
    ∃ i τ xs, ys[i]? = some (.l τ xs) ∧ key = k + j + i ∧ row = ⟨τ, xs, kd w (md ms i)⟩
  | [], ms, j, key, row => by simp [entC]
  | y :: ys, ms, j, key, row => by
    have ih := entC_mem k w ys (tl ms) (j + 1) key row
    have rest : (∃ i τ xs, ys[i]? = some (.l τ xs) ∧ key = k + (j + 1) + i ∧ row = ⟨τ, xs, kd w (md (tl ms) i)⟩) ↔
        ∃ i τ xs, (y :: ys)[i + 1]? = some (.l τ xs) ∧ key = k + j + (i + 1) ∧ row = ⟨τ, xs, kd w (md ms (i + 1))⟩ := by
      simp only [md_tl, List.getElem?_cons_succ, show ∀ i, k + (j + 1) + i = k + j + (i + 1) by intro i; omega]
    have split : (∃ i τ xs, (y :: ys)[i]? = some (.l τ xs) ∧ key = k + j + i ∧ row = ⟨τ, xs, kd w (md ms i)⟩) ↔
        ((∃ τ xs, y = .l τ xs ∧ key = k + j ∧ row = ⟨τ, xs, kd w (md ms 0)⟩) ∨
        ∃ i τ xs, (y :: ys)[i + 1]? = some (.l τ xs) ∧ key = k + j + (i + 1) ∧ row = ⟨τ, xs, kd w (md ms (i + 1))⟩) := by
      constructor
      · rintro ⟨i, τ, xs, h1, h2, h3⟩
        cases i with
        | zero => exact .inl ⟨τ, xs, by simpa using h1, h2, h3⟩
        | succ i => exact .inr ⟨i, τ, xs, h1, h2, h3⟩
      · rintro (⟨τ, xs, h1, h2, h3⟩ | ⟨i, τ, xs, h1, h2, h3⟩)
        · exact ⟨0, τ, xs, by simp [h1], h2, h3⟩
        · exact ⟨i + 1, τ, xs, h1, h2, h3⟩
    rw [split, ← rest, ← ih]
    cases y with
    | l τ xs =>
      simp only [entC, List.mem_cons, Prod.mk.injEq]
      constructor
      · rintro (⟨h1, h2⟩ | h)
        · refine .inl ⟨τ, xs, rfl, h1, ?_⟩
          rw [h2]; simp [md_zero]
        · exact .inr h
      · rintro (⟨τ', xs', h1, h2, h3⟩ | h)
        · cases h1
          refine .inl ⟨h2, ?_⟩
          rw [h3]; simp [md_zero]
        · exact .inr h
    | _ => simp [entC]


/-- the contents of an argument by value -/
def acl : AC → List Ct
  | .c y => [y] | .a ys => ys | _ => []
def entAV (m P : Nat) : AC → AV
  | .c y => .c (entCell (100000 + P * 64) y)
  | .a ys => .a (entC (100000 + P * 64) (kd 0 m) [] 0 ys).1
  | .p k => .c (.pv k 0)
  | .f g ks => .c (.fn g ks)
  | .al k c => .c (.sw (300000 + k * 64 + c))
  | .io _ _ => .c (.sw (200000 + P * 64))
def AMem (m P : Nat) (x : AC) (key : Nat) (row : Row) : Prop :=
  (∃ j τ xs, (acl x)[j]? = some (.l τ xs) ∧ key = 100000 + P * 64 + j ∧ row = ⟨τ, xs, kd 0 m⟩) ∨ ∃ τ xs, x = .io τ xs ∧ key = 200000 + P * 64 ∧ row = ⟨τ, xs, 5⟩

theorem kd_kd (m n : Nat) : kd (kd 0 m) n = kd 0 m := by cases m <;> rfl
theorem entA_cons (am : List Nat) (p : Nat) (x : AC) (l : List AC) : entA am p (x :: l) = (entAV (hd am) p x :: (entA (tl am) (p + 1) l).1,
    (match x with
      | .c y => (entC (100000 + p * 64) (kd 0 (hd am)) [] 0 [y]).2
      | .a ys => (entC (100000 + p * 64) (kd 0 (hd am)) [] 0 ys).2
      | .io τ xs => [(200000 + p * 64, ⟨τ, xs, 5⟩)]
      | _ => []) ++ (entA (tl am) (p + 1) l).2) := by
  cases x with
  | c y =>
    simp only [entA]
    cases y <;> simp [entC, entAV, entCell]
  | a ys => simp only [entA, entAV]
  | _ => simp [entA, entAV]

theorem entA_get : ∀ (acs : List AC) (am : List Nat) (p i : Nat), ((entA am p acs).1)[i]? = (acs[i]?).map (entAV (md am i) (p + i))
  | [], am, p, i => by simp [entA]
  | x :: l, am, p, i => by
    rw [entA_cons]
    cases i with
    | zero => simp [md_zero]
    | succ i => simp [entA_get l (tl am) (p + 1) i, md_tl, show p + 1 + i = p + (i + 1) by omega]
theorem entA_mem : ∀ (acs : List AC) (am : List Nat) (p : Nat) (key : Nat) (row : Row), (key, row) ∈ (entA am p acs).2 ↔ ∃ i x, acs[i]? = some x ∧ AMem (md am i) (p + i) x key row
  | [], am, p, key, row => by simp [entA]
  | x :: l, am, p, key, row => by
    have ih := entA_mem l (tl am) (p + 1) key row
    have rest : (∃ i x, l[i]? = some x ∧ AMem (md (tl am) i) (p + 1 + i) x key row) ↔ ∃ i y, (x :: l)[i + 1]? = some y ∧ AMem (md am (i + 1)) (p + (i + 1)) y key row := by
      simp only [md_tl, List.getElem?_cons_succ, show ∀ i, p + 1 + i = p + (i + 1) by intro i; omega]
    have split : (∃ i y, (x :: l)[i]? = some y ∧ AMem (md am i) (p + i) y key row) ↔ AMem (hd am) p x key row ∨ ∃ i y, (x :: l)[i + 1]? = some y ∧ AMem (md am (i + 1)) (p + (i + 1)) y key row := by
      constructor
      · rintro ⟨i, y, h1, h2⟩
        cases i with
        | zero => simp only [List.getElem?_cons_zero, Option.some.injEq] at h1; subst h1; exact .inl h2
        | succ i => exact .inr ⟨i, y, h1, h2⟩
      · rintro (h | ⟨i, y, h1, h2⟩)
        · exact ⟨0, x, rfl, h⟩
        · exact ⟨i + 1, y, h1, h2⟩
    rw [split, ← rest, ← ih, entA_cons]
    simp only [List.mem_append]
    refine or_congr ?_ Iff.rfl
    cases x with
    | c y => simp only [entC_mem, kd_kd, AMem, acl]; simp
    | a ys => simp only [entC_mem, kd_kd, AMem, acl]; simp
    | io τ xs =>
      simp only [AMem, acl, List.mem_singleton, Prod.mk.injEq]
      constructor
      · rintro ⟨h1, h2⟩; exact .inr ⟨τ, xs, rfl, h1, h2⟩
      · rintro (⟨j, _, _, h, _⟩ | ⟨_, _, h0, h1, h2⟩)
        · simp at h
        · cases h0; exact ⟨h1, h2⟩
    | _ => simp [AMem, acl]

theorem entV_cons (k : Nat) (ms : List (List Nat)) (l : List Ct) (vin : List (List Ct)) : entV k ms (l :: vin) =
    ((k, (entC (300000 + k * 64) 0 (hdL ms) 0 l).1) :: (entV (k + 1) (tl ms) vin).1, (entC (300000 + k * 64) 0 (hdL ms) 0 l).2 ++ (entV (k + 1) (tl ms) vin).2) := rfl
theorem entV_mem : ∀ (vin : List (List Ct)) (vl : List (List Nat)) (k : Nat) (key : Nat) (row : Row), (key, row) ∈ (entV k vl vin).2 ↔
    ∃ i l j τ xs, vin[i]? = some l ∧ l[j]? = some (.l τ xs) ∧ key = 300000 + (k + i) * 64 + j ∧ row = ⟨τ, xs, kd 0 (md (mdL vl i) j)⟩
  | [], vl, k, key, row => by simp [entV]
  | x :: vin, vl, k, key, row => by
    have ih := entV_mem vin (tl vl) (k + 1) key row
    rw [entV_cons, List.mem_append, ih, entC_mem]
    constructor
    · rintro (⟨j, τ, xs, h1, h2, h3⟩ | ⟨i, l, j, τ, xs, h1, h2, h3, h4⟩)
      · exact ⟨0, x, j, τ, xs, rfl, h1, by omega, h3⟩
      · exact ⟨i + 1, l, j, τ, xs, by simpa using h1, h2, by omega, by rw [h4, mdL_tl]⟩
    · rintro ⟨i, l, j, τ, xs, h1, h2, h3, h4⟩
      cases i with
      | zero => simp only [List.getElem?_cons_zero, Option.some.injEq] at h1; subst h1; exact .inl ⟨j, τ, xs, h2, by omega, h4⟩
      | succ i => exact .inr ⟨i, l, j, τ, xs, by simpa using h1, h2, by omega, by rw [h4, mdL_tl]⟩
theorem entV_v : ∀ (vin : List (List Ct)) (vl : List (List Nat)) (k n : Nat), lk (entV k vl vin).1 n = if n < k then none else (vin[n - k]?).map fun l => (entC (300000 + n * 64) 0 (mdL vl (n - k)) 0 l).1
  | [], vl, k, n => by simp [entV, lk]
  | x :: vin, vl, k, n => by
    rw [entV_cons]
    simp only [lk, entV_v vin (tl vl) (k + 1) n]
    cases h : Nat.beq k n with
    | true => have := nat_beq h; subst this; simp [mdL_zero]
    | false =>
      have hne : k ≠ n := by rintro rfl; rw [Nat.beq_refl] at h; cases h
      simp only
      by_cases h1 : n < k
      · rw [if_pos h1, if_pos (by omega)]
      · rw [if_neg h1, if_neg (by omega)]
        obtain ⟨d, rfl⟩ : ∃ d, n = k + 1 + d := ⟨n - k - 1, by omega⟩
        simp [mdL_tl, show k + 1 + d - k = d + 1 by omega, show k + 1 + d - (k + 1) = d by omega]

theorem entry_v (g : Sig) (acs : List AC) (vin : List (List Ct)) (k : Nat) : (entry g acs vin).lk.v k = (vin[k]?).map fun l => (entC (300000 + k * 64) 0 (mdL g.vl k) 0 l).1 := by
  show lk (entV 0 g.vl vin).1 k = _
  rw [entV_v]; simp
theorem entry_rs (g : Sig) (acs : List AC) (vin : List (List Ct)) : (entry g acs vin).rs = (entA g.am 0 acs).2 ++ (entV 0 g.vl vin).2 := rfl
/-- a row at the beginning -/
theorem entry_r {g : Sig} {acs : List AC} {vin : List (List Ct)} {key : Nat} {row : Row} (h : (entry g acs vin).lk.r key = some row) :
    (∃ p x, acs[p]? = some x ∧ AMem (md g.am p) p x key row) ∨ ∃ i l j τ xs, vin[i]? = some l ∧ l[j]? = some (.l τ xs) ∧ key = 300000 + i * 64 + j ∧ row = ⟨τ, xs, kd 0 (md (mdL g.vl i) j)⟩ := by
  have h : lk (entry g acs vin).rs key = some row := h
  have := lk_mem h
  rw [entry_rs, List.mem_append, entA_mem, entV_mem] at this
  simpa using this
theorem lk_some_of_mem {α : Type} {l : List (Nat × α)} {k : Nat} {v : α} (h : (k, v) ∈ l) : ∃ u, lk l k = some u := by
  cases hl : lk l k with
  | some u => exact ⟨u, rfl⟩
  | none => exact absurd (mem_keys h) (lk_none.1 hl)
theorem entry_has {g : Sig} {acs : List AC} {vin : List (List Ct)} {key : Nat} {row : Row} (h : (∃ p x, acs[p]? = some x ∧ AMem (md g.am p) p x key row) ∨ ∃ i l j τ xs, vin[i]? = some l ∧ l[j]? = some (.l τ xs) ∧ key = 300000 + i * 64 + j ∧ row = ⟨τ, xs, kd 0 (md (mdL g.vl i) j)⟩) :
    ∃ u, (entry g acs vin).lk.r key = some u := by
  have : (key, row) ∈ (entry g acs vin).rs := by
    rw [entry_rs, List.mem_append, entA_mem, entV_mem]
    simpa using h
  exact lk_some_of_mem this

end Go.Soft
