/-
  SoftZH: tables of loops, of functions: their arguments as typed values.
-/
import Derived.Test.YtlcebcpciagogaaSoftZG
set_option linter.constructorNameAsVariable false
set_option linter.unusedSimpArgs false
set_option linter.unusedVariables false
namespace Go.Soft
open Go

/-- what a value of a loop's head is -/
inductive VT | b | i (k : IntKind) | s | l (τ : Ty) | n
def VT.T : VT → Type
  | .b => Bool | .i _ => Int | .s => ByteArray | .l τ => List (El τ) | .n => Nat
def HL : List VT → Type
  | [] => Unit
  | t :: ts => t.T × HL ts
def castL : (τ σ : Ty) → List (El σ) → Option (List (El τ))
  | .int, .int, x => some x | .bool, .bool, x => some x | .byte, .byte, x => some x | .str, .str, x => some x | .slot, .slot, x => some x | .inode, .inode, x => some x
  | .block, .block, x => some x | .dep, .dep, x => some x | .node, .node, x => some x | .event, .event, x => some x
  | _, _, _ => none
theorem castL_eq {τ σ : Ty} {x : List (El σ)} {y : List (El τ)} (h : castL τ σ x = some y) : Val.l σ x = Val.l τ y ∧ Ct.l σ x = Ct.l τ y := by
  cases τ <;> cases σ <;> simp only [castL, Option.some.injEq, reduceCtorEq] at h <;> subst h <;> exact ⟨rfl, rfl⟩
def Val.getB : Val → Option Bool | .b x => some x | _ => none
def Val.getI (k : IntKind) : Val → Option Int | .i k' x => (match kEq k k' with | true => some x | false => none) | _ => none
def Val.getS : Val → Option ByteArray | .s x => some x | _ => none
def Val.getL (τ : Ty) : Val → Option (List (El τ)) | .l σ x => castL τ σ x | _ => none
def Val.getN : Val → Option Nat | .n x => some x | _ => none
def VT.dec : (t : VT) → Val → Option t.T
  | .b, v => v.getB
  | .i k, v => v.getI k
  | .s, v => v.getS
  | .l τ, v => v.getL τ
  | .n, v => v.getN
def VT.enc : (t : VT) → t.T → Val
  | .b, x => .b x | .i k, x => .i k x | .s, x => .s x | .l τ, x => .l τ x | .n, x => .n x
theorem VT.dec_eq {t : VT} {v : Val} {x : t.T} (h : t.dec v = some x) : v = t.enc x := by
  cases t with
  | b =>
    cases v with
    | b y => cases (h : some y = some x); rfl
    | _ => cases h
  | i k =>
    cases v with
    | i k' y =>
      have h : (match kEq k k' with | true => some y | false => none) = some x := h
      cases hk : kEq k k' with
      | false => rw [hk] at h; cases h
      | true => rw [hk] at h; cases h; rw [kEq_eq hk]; rfl
    | _ => cases h
  | s =>
    cases v with
    | s y => cases (h : some y = some x); rfl
    | _ => cases h
  | l τ =>
    cases v with
    | l σ y => exact (castL_eq (h : castL τ σ y = some x)).1
    | _ => cases h
  | n =>
    cases v with
    | n y => cases (h : some y = some x); rfl
    | _ => cases h
def decs : (ts : List VT) → List Val → Option (HL ts)
  | [], [] => some ()
  | t :: ts, v :: l => match t.dec v with
    | some x => match decs ts l with | some y => some (x, y) | none => none
    | none => none
  | _, _ => none
def encs : (ts : List VT) → HL ts → List Val
  | [], _ => []
  | t :: ts, (x, y) => t.enc x :: encs ts y
theorem decs_eq : ∀ {ts : List VT} {l : List Val} {h : HL ts}, decs ts l = some h → l = encs ts h
  | [], [], _, _ => rfl
  | [], _ :: _, _, h => by cases h
  | _ :: _, [], _, h => by cases h
  | t :: ts, v :: l, (x, y), h => by
    simp only [decs] at h
    cases hv : t.dec v with
    | none => rw [hv] at h; cases h
    | some x' =>
      cases hl : decs ts l with
      | none => rw [hv, hl] at h; cases h
      | some y' =>
        rw [hv, hl] at h
        simp only [Option.some.injEq, Prod.mk.injEq] at h
        obtain ⟨rfl, rfl⟩ := h
        simp only [encs]
        rw [VT.dec_eq hv, decs_eq hl]

/-- the content of a cell -/
def Ct.getB : Ct → Option Bool | .b x => some x | _ => none
def Ct.getI (k : IntKind) : Ct → Option Int | .i k' x => (match kEq k k' with | true => some x | false => none) | _ => none
def Ct.getS : Ct → Option ByteArray | .s x => some x | _ => none
def Ct.getL (τ : Ty) : Ct → Option (List (El τ)) | .l σ x => castL τ σ x | _ => none
def VT.decC : (t : VT) → Ct → Option t.T
  | .b, v => v.getB
  | .i k, v => v.getI k
  | .s, v => v.getS
  | .l τ, v => v.getL τ
  | .n, _ => none
def VT.encC : (t : VT) → t.T → Ct
  | .b, x => .b x | .i k, x => .i k x | .s, x => .s x | .l τ, x => .l τ x | .n, _ => .u
theorem VT.decC_eq {t : VT} {v : Ct} {x : t.T} (h : t.decC v = some x) : v = t.encC x := by
  cases t with
  | b =>
    cases v with
    | b y => cases (h : some y = some x); rfl
    | _ => cases h
  | i k =>
    cases v with
    | i k' y =>
      have h : (match kEq k k' with | true => some y | false => none) = some x := h
      cases hk : kEq k k' with
      | false => rw [hk] at h; cases h
      | true => rw [hk] at h; cases h; rw [kEq_eq hk]; rfl
    | _ => cases h
  | s =>
    cases v with
    | s y => cases (h : some y = some x); rfl
    | _ => cases h
  | l τ =>
    cases v with
    | l σ y => exact (castL_eq (h : castL τ σ y = some x)).2
    | _ => cases h
  | n => cases h
/-- some: a typed cell; none: a cell that nothing is known of -/
def CT : List (Option VT) → Type
  | [] => Unit
  | some t :: ts => t.T × CT ts
  | none :: ts => CT ts
def Ct.isU : Ct → Bool | .u => true | _ => false
def decCs : (ts : List (Option VT)) → List Ct → Option (CT ts)
  | [], l => (match l with | [] => some () | _ => none)
  | some t :: ts, l => (match l with
    | [] => none
    | v :: l => match t.decC v with
      | some x => (match decCs ts l with | some y => some (x, y) | none => none)
      | none => none)
  | none :: ts, l => (match l with
    | [] => none
    | v :: l => match v.isU with
      | true => decCs ts l
      | false => none)
def encCs : (ts : List (Option VT)) → CT ts → List Ct
  | [], _ => []
  | some t :: ts, (x, y) => t.encC x :: encCs ts y
  | none :: ts, y => .u :: encCs ts y
theorem decCs_eq : ∀ {ts : List (Option VT)} {l : List Ct} {h : CT ts}, decCs ts l = some h → l = encCs ts h
  | [], l, h, e => by
    cases l with
    | nil => rfl
    | cons v l => cases e
  | some t :: ts, l, h, e => by
    cases l with
    | nil => cases e
    | cons v l =>
      have e : (match t.decC v with
        | some x => (match decCs ts l with | some y => some (x, y) | none => none)
        | none => none) = some h := e
      cases hv : t.decC v with
      | none => rw [hv] at e; cases e
      | some x' =>
        cases hl : decCs ts l with
        | none => rw [hv, hl] at e; cases e
        | some y' =>
          rw [hv, hl] at e
          cases e
          show v :: l = t.encC x' :: encCs ts y'
          rw [VT.decC_eq hv, decCs_eq hl]
  | none :: ts, l, h, e => by
    cases l with
    | nil => cases e
    | cons v l =>
      cases v with
      | u =>
        have e : decCs ts l = some h := e
        show Ct.u :: l = .u :: encCs ts h
        rw [decCs_eq e]
      | _ => cases e

/-- an argument -/
inductive ASh | c (t : Option VT) | a (ts : List (Option VT)) | p (k : Nat) | f (g : Nat) (ks : List Nat) | al (k c : Nat) | io (τ : Ty)
def ASh.T : ASh → Type
  | .c t => CT [t] | .a ts => CT ts | .io τ => List (El τ) | _ => Unit
def AC.getC : AC → List Ct | .c y => [y] | _ => []
def AC.getA : AC → Option (List Ct) | .a y => some y | _ => none
def AC.isP (k : Nat) : AC → Bool | .p k' => Nat.beq k k' | _ => false
def AC.isF (k : Nat) (ks : List Nat) : AC → Bool | .f k' ks' => Nat.beq k k' && eqNs ks ks' | _ => false
def AC.isAl (k j : Nat) : AC → Bool | .al k' j' => Nat.beq k k' && Nat.beq j j' | _ => false
def AC.getIo (τ : Ty) : AC → Option (List (El τ)) | .io σ xs => castL τ σ xs | _ => none
def unitB : Bool → Option Unit | true => some () | false => none
def ASh.dec : (s : ASh) → AC → Option s.T
  | .c t, v => decCs [t] v.getC
  | .a ts, v => (match v.getA with | some l => decCs ts l | none => none)
  | .p k, v => unitB (v.isP k)
  | .f g ks, v => unitB (v.isF g ks)
  | .al k j, v => unitB (v.isAl k j)
  | .io τ, v => v.getIo τ
def hdC (l : List Ct) : Ct := match l with | [x] => x | _ => .u
def ASh.enc : (s : ASh) → s.T → AC
  | .c t, x => .c (hdC (encCs [t] x)) | .a ts, x => .a (encCs ts x) | .p k, _ => .p k | .f g ks, _ => .f g ks | .al k j, _ => .al k j | .io τ, x => .io τ x
theorem unitB_eq {b : Bool} {x : Unit} (h : unitB b = some x) : b = true := by cases b <;> first | rfl | cases h
theorem ASh.dec_eq {s : ASh} {y : AC} {x : s.T} (h : s.dec y = some x) : y = s.enc x := by
  cases s with
  | c t =>
    cases y with
    | c z =>
      have e := decCs_eq (h : decCs [t] [z] = some x)
      show AC.c z = .c (hdC (encCs [t] x))
      rw [← e]; rfl
    | _ => cases t <;> cases h
  | a ts =>
    cases y with
    | a z =>
      show AC.a z = .a (encCs ts x)
      rw [← decCs_eq (h : decCs ts z = some x)]
    | _ => cases h
  | p k =>
    cases y with
    | p k' => have := nat_beq (unitB_eq (h : unitB (Nat.beq k k') = some x)); subst this; rfl
    | _ => cases h
  | f g ks =>
    cases y with
    | f g' ks' =>
      have hk : (Nat.beq g g' && eqNs ks ks') = true := unitB_eq (h : unitB (Nat.beq g g' && eqNs ks ks') = some x)
      simp only [Bool.and_eq_true] at hk
      have h1 := nat_beq hk.1
      have h2 := eqNs_eq hk.2
      subst h1; subst h2; rfl
    | _ => cases h
  | al k j =>
    cases y with
    | al k' j' =>
      have hk : (Nat.beq k k' && Nat.beq j j') = true := unitB_eq (h : unitB (Nat.beq k k' && Nat.beq j j') = some x)
      simp only [Bool.and_eq_true] at hk
      have h1 := nat_beq hk.1
      have h2 := nat_beq hk.2
      subst h1; subst h2; rfl
    | _ => cases h
  | io τ =>
    cases y with
    | io σ xs =>
      have h : castL τ σ xs = some x := h
      show AC.io σ xs = .io τ x
      have e := (castL_eq h).2
      injection e with h1 h2
      subst h1
      rw [eq_of_heq h2]
    | _ => cases h
def AsT : List ASh → Type
  | [] => Unit
  | s :: l => s.T × AsT l
def decAs : (ss : List ASh) → List AC → Option (AsT ss)
  | [], [] => some ()
  | s :: ss, v :: l => match s.dec v with
    | some x => match decAs ss l with | some y => some (x, y) | none => none
    | none => none
  | _, _ => none
def encAs : (ss : List ASh) → AsT ss → List AC
  | [], _ => []
  | s :: ss, (x, y) => s.enc x :: encAs ss y
theorem decAs_eq : ∀ {ts : List ASh} {l : List AC} {h : AsT ts}, decAs ts l = some h → l = encAs ts h
  | [], [], _, _ => rfl
  | [], _ :: _, _, h => by cases h
  | _ :: _, [], _, h => by cases h
  | t :: ts, v :: l, (x, y), h => by
    simp only [decAs] at h
    cases hv : t.dec v with
    | none => rw [hv] at h; cases h
    | some x' =>
      cases hl : decAs ts l with
      | none => rw [hv, hl] at h; cases h
      | some y' =>
        rw [hv, hl] at h
        simp only [Option.some.injEq, Prod.mk.injEq] at h
        obtain ⟨rfl, rfl⟩ := h
        simp only [encAs]
        rw [ASh.dec_eq hv, decAs_eq hl]
def VsT : List (List (Option VT)) → Type
  | [] => Unit
  | s :: l => CT s × VsT l
def decVs : (ss : List (List (Option VT))) → List (List Ct) → Option (VsT ss)
  | [], [] => some ()
  | s :: ss, v :: l => match decCs s v with
    | some x => match decVs ss l with | some y => some (x, y) | none => none
    | none => none
  | _, _ => none
def encVs : (ss : List (List (Option VT))) → VsT ss → List (List Ct)
  | [], _ => []
  | s :: ss, (x, y) => encCs s x :: encVs ss y
theorem decVs_eq : ∀ {ts : List (List (Option VT))} {l : List (List Ct)} {h : VsT ts}, decVs ts l = some h → l = encVs ts h
  | [], [], _, _ => rfl
  | [], _ :: _, _, h => by cases h
  | _ :: _, [], _, h => by cases h
  | t :: ts, v :: l, (x, y), h => by
    simp only [decVs] at h
    cases hv : decCs t v with
    | none => rw [hv] at h; cases h
    | some x' =>
      cases hl : decVs ts l with
      | none => rw [hv, hl] at h; cases h
      | some y' =>
        rw [hv, hl] at h
        simp only [Option.some.injEq, Prod.mk.injEq] at h
        obtain ⟨rfl, rfl⟩ := h
        simp only [encVs]
        rw [decCs_eq hv, decVs_eq hl]

variable {R : Type}
/-- a function, by its typed arguments -/
def funOf (as : List ASh) (vs : List (List (Option VT))) (G : AsT as → VsT vs → (CR → Option R) → Option R) : FunR R := fun acs vin k => match decAs as acs with
  | none => none
  | some a => match decVs vs vin with
    | none => none
    | some v => G a v k
/-- a loop, in one of its forms -/
structure LF (R : Type) where
  id : Nat
  i : Nat
  ts : List VT
  F : Nat → HL ts → (Ex → St → Option R) → Option R
def findLF (id i : Nat) : List (LF R) → Option (LF R)
  | [] => none
  | x :: l => match Nat.beq x.id id, Nat.beq x.i i with | true, true => some x | _, _ => findLF id i l
def LF.run (x : LF R) (m : Nat) (l : List Val) (K : Ex → St → Option R) : Option R := match decs x.ts l with | none => none | some h => x.F m h K
def lpsOf (tab : List (LF R)) (m : Nat) : Loop R := fun id i l K => match findLF id i tab with | none => none | some x => x.run m l K
theorem findLF_mem {id i : Nat} : ∀ {tab : List (LF R)} {x : LF R}, findLF id i tab = some x → x ∈ tab ∧ x.id = id ∧ x.i = i
  | [], _, h => by cases h
  | y :: l, x, h => by
    simp only [findLF] at h
    revert h; split
    · rename_i h1 h2
      intro h; cases h
      exact ⟨List.mem_cons_self, nat_beq h1, nat_beq h2⟩
    · intro h
      obtain ⟨a, b⟩ := findLF_mem h
      exact ⟨List.mem_cons_of_mem _ a, b⟩
variable {X : Ctx} {E : Env R} {L : Live} {body : Code}
/-- one form of a loop is what the interpreter comes to -/
structure LFOk (X : Ctx) (E : Env R) (L : Live) (body : Code) (tab : List (LF R)) (x : LF R) : Prop where
  z : ∀ h K, x.F 0 h K = none
  s : ∃ c, getLoop x.id body = some c ∧ ∀ m h K, round X E L (lpsOf tab m) c x.i (encs x.ts h) K = x.F (m + 1) h K
theorem lpsOf_ok {tab : List (LF R)} (hnd : nodupN (loopIds body) = true) (h : ∀ x ∈ tab, LFOk X E L body tab x) : LpsOk X E L body (lpsOf tab) := by
  refine ⟨fun id i l => ?_, fun n id i l => ?_, hnd⟩
  · funext K
    simp only [lpsOf]
    cases hf : findLF id i tab with
    | none => rfl
    | some x =>
      simp only [LF.run]
      cases hd : decs x.ts l with
      | none => rfl
      | some a => exact (h x (findLF_mem hf).1).z a K
  · cases hf : findLF id i tab with
    | none => refine .inl ?_; funext K; simp only [lpsOf, hf]
    | some x =>
      obtain ⟨hx, rfl, rfl⟩ := findLF_mem hf
      cases hd : decs x.ts l with
      | none => refine .inl ?_; funext K; simp only [lpsOf, hf, LF.run, hd]
      | some a =>
        obtain ⟨c, hc, hs⟩ := (h x hx).s
        refine .inr ⟨c, hc, ?_⟩
        funext K
        simp only [lpsOf, hf, LF.run, hd]
        rw [← hs n a K, ← decs_eq hd]

/-- functions by their numbers -/
def envOf (l : List (Nat × (Sig × FunR R))) : Env R := ⟨fun f => match lk l f with | some p => some p.1 | none => none, fun f => match lk l f with | some p => p.2 | none => fun _ _ _ => none⟩
theorem envOf_ok {l : List (Nat × (Sig × FunR R))} (h : ∀ p ∈ l, FnOk X p.2.1 p.1 p.2.2 ∧ Enters X.P p.1) : EnvOk X (envOf l) := by
  refine ⟨fun f g hg => ?_, fun f acs vin => ?_⟩
  · have hg : (match lk l f with | some p => some p.1 | none => none) = some g := hg
    cases hl : lk l f with
    | none => rw [hl] at hg; cases hg
    | some p =>
      rw [hl] at hg; cases hg
      obtain ⟨h1, h2⟩ := h (f, p) (lk_mem hl)
      refine ⟨?_, h2⟩
      have : (envOf l).fn f = p.2 := by show (match lk l f with | some p => p.2 | none => fun _ _ _ => none) = _; rw [hl]
      rw [this]; exact h1
  · show Uni ((match lk l f with | some p => p.2 | none => fun _ _ _ => none) acs vin)
    cases hl : lk l f with
    | none => exact Uni.none
    | some p => exact (h (f, p) (lk_mem hl)).1.uni acs vin

/-- a function of the program, by its typed form -/
theorem fun_ok (r0 : R) (hX : CtxOk X) {env : List (Nat × (Sig × FunR R))} (hE : ∀ p ∈ env, FnOk X p.2.1 p.1 p.2.2 ∧ Enters X.P p.1) {L : Live} {g : Sig} {f : FuncId} {fn : Func} {body : Code} {tab : List (LF R)}
    {as : List ASh} {vs : List (List (Option VT))} {G : AsT as → VsT vs → (CR → Option R) → Option R} (n : Nat)
    (hf : X.P.funcs[f]? = some fn) (hb : fn.body = some body) (hnd : nodupN (loopIds body) = true) (hl : ∀ x ∈ tab, LFOk (X.at fn) (envOf env) L body tab x)
    (hF : ∀ a v k, fnRun X (envOf env) L (lpsOf tab n) g fn (encAs as a) (encVs vs v) k = G a v k) : FnOk X g f (funOf as vs G) := by
  refine fn_ok r0 hX (envOf_ok hE) hf hb (lpsOf_ok hnd hl) fun acs vin => ?_
  cases h1 : decAs as acs with
  | none => refine .inl ?_; funext k; simp only [funOf, h1]
  | some a =>
    cases h2 : decVs vs vin with
    | none => refine .inl ?_; funext k; simp only [funOf, h1, h2]
    | some v =>
      refine .inr ⟨n, ?_⟩
      funext k
      simp only [funOf, h1, h2]
      rw [← hF a v k, ← decAs_eq h1, ← decVs_eq h2]
theorem enters {P : Program} {f : FuncId} {fn : Func} (h : P.funcs[f]? = some fn) (h1 : (fn.name == "runtime.NumGoroutine") = false) (h2 : fn.body.isNone = false) : Enters P f := ⟨fn, h, h1, h2⟩

end Go.Soft
