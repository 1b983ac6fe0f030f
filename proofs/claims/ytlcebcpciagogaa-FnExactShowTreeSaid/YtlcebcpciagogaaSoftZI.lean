/-
  SoftZI: the types' table, held by a Bool.
-/
import Derived.Test.YtlcebcpciagogaaSoftZH
set_option linter.constructorNameAsVariable false
set_option linter.unusedSimpArgs false
set_option linter.unusedVariables false
namespace Go.Soft
open Go

def ctB : Ct → Value → Bool
  | .b x, .bool y => (match x, y with | true, true | false, false => true | _, _ => false)
  | .i k n, .int k' n' => kEq k k' && decide (n = n')
  | .s x, .string y => decide (x = y)
  | .l _ [], .slice none 0 0 => true
  | _, _ => false
def ctsB : List Ct → List Value → Bool
  | [], [] => true
  | c :: l, v :: m => ctB c v && ctsB l m
  | _, _ => false
theorem ctB_eq {c : Ct} {v : Value} (h : ctB c v = true) : v = ctVal c := by
  revert h
  unfold ctB
  split
  · intro h; rename_i x y; cases x <;> cases y <;> first | rfl | cases h
  · intro h
    simp only [Bool.and_eq_true, decide_eq_true_eq] at h
    rw [kEq_eq h.1, h.2]; rfl
  · intro h
    simp only [decide_eq_true_eq] at h
    rw [h]; rfl
  · intro _; rfl
  · intro h; cases h
theorem ctsB_eq : ∀ {l : List Ct} {m : List Value}, ctsB l m = true → m = l.map ctVal
  | [], [], _ => rfl
  | [], _ :: _, h => by cases h
  | _ :: _, [], h => by cases h
  | c :: l, v :: m, h => by
    simp only [ctsB, Bool.and_eq_true] at h
    rw [List.map_cons, ctB_eq h.1, ctsB_eq h.2]
def tyB (P : Program) (id : Ty → TypeId) (e : Nat) (τ : Ty) : Bool := match P.info? e with
  | none => false
  | some i => Nat.beq i.size (sz τ) && (match Nat.beq (id τ) e with
    | false => true
    | true => match i.zero with | some z => ctsB (cells τ (dflt τ)) z.cells.toList && Nat.ble i.bytes 128 | none => false)
def byteB (P : Program) (e : Nat) (τ : Ty) : Bool := match τ with
  | .byte => (match P.underlying e with | some (.int .u8) => true | _ => false)
  | _ => true
def ctxB (X : Ctx) : List (Nat × Ty) → Bool
  | [] => true
  | (e, τ) :: l => (tyB X.P X.id e τ && byteB X.P e τ) && ctxB X l
theorem ctxB_mem {X : Ctx} : ∀ {l : List (Nat × Ty)}, ctxB X l = true → ∀ e τ, (e, τ) ∈ l → tyB X.P X.id e τ = true ∧ byteB X.P e τ = true
  | [], _, e, τ, h => by cases h
  | (e', τ') :: l, h, e, τ, hm => by
    simp only [ctxB, Bool.and_eq_true] at h
    rcases List.mem_cons.1 hm with hm | hm
    · cases hm; exact h.1
    · exact ctxB_mem h.2 e τ hm
theorem ctxOk_of {X : Ctx} (h : ctxB X X.ty = true) (heq : ∀ t, hasN t X.eqs = true → StructEq X.P t) (hm : X.P.follows .mixedOrders = true) : CtxOk X := by
  refine ⟨fun e τ hl => ?_, fun e τ hl hid => ?_, fun e hl => ?_, heq, hm⟩
  · have := (ctxB_mem h e τ (lk_mem hl)).1
    simp only [tyB] at this
    cases hi : X.P.info? e with
    | none => rw [hi] at this; cases this
    | some i =>
      rw [hi] at this
      simp only [Bool.and_eq_true] at this
      exact ⟨i, rfl, nat_beq this.1⟩
  · have := (ctxB_mem h e τ (lk_mem hl)).1
    simp only [tyB] at this
    cases hi : X.P.info? e with
    | none => rw [hi] at this; cases this
    | some i =>
      rw [hi, hid] at this
      simp only [Bool.and_eq_true, Nat.beq_refl] at this
      cases hz : i.zero with
      | none => rw [hz] at this; exact absurd this.2 (by simp)
      | some z =>
        rw [hz] at this
        have h2 := this.2
        simp only [Bool.and_eq_true] at h2
        exact ⟨i, z, rfl, hz, ctsB_eq h2.1, Nat.le_of_ble_eq_true h2.2⟩
  · have := (ctxB_mem h e .byte (lk_mem hl)).2
    simp only [byteB] at this
    revert this; split
    · rename_i hu; intro _; exact hu
    · intro h; cases h
theorem noEqs {X : Ctx} (h : X.eqs = []) : ∀ t, hasN t X.eqs = true → StructEq X.P t := by
  intro t ht; rw [h] at ht; cases ht

end Go.Soft
