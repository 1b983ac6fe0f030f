/-
  SoftU: every part of the interpreter hands on one answer, or none.
-/
import Derived.Test.YtlcebcpciagogaaSoftT
set_option linter.constructorNameAsVariable false
set_option linter.unusedSimpArgs false
set_option linter.unusedVariables false
namespace Go.Soft
open Go
variable {X : Ctx} {R : Type} {E : Env R} {L : Live} {lp : Loop R}

theorem Uni.none {α : Type} : Uni (fun _ : α → Option R => Option.none) := ⟨Option.none, fun _ => rfl⟩
theorem Uni.one {α : Type} (x : α) : Uni (fun k : α → Option R => k x) := ⟨some x, fun _ => rfl⟩
theorem Uni.map {α β : Type} {T : (α → Option R) → Option R} (h : Uni T) (f : α → β) : Uni (fun k : β → Option R => T fun x => k (f x)) := by
  obtain ⟨o, ho⟩ := h
  refine ⟨o.map f, fun k => ?_⟩
  show T _ = _
  rw [ho]; cases o <;> rfl
theorem Uni.bind {α β : Type} {T : (α → Option R) → Option R} (h : Uni T) {F : α → (β → Option R) → Option R} (hF : ∀ x, Uni (F x)) : Uni (fun k => T fun x => F x k) := by
  obtain ⟨o, ho⟩ := h
  cases o with
  | none => exact ⟨Option.none, fun k => by show T _ = _; rw [ho]; rfl⟩
  | some x => obtain ⟨o', ho'⟩ := hF x; exact ⟨o', fun k => by show T _ = _; rw [ho]; exact ho' k⟩
theorem Uni.chk {α : Type} {T : (α → Option R) → Option R} (h : Uni T) (c : Bool) : Uni (fun k => Soft.chk c (T k)) := by
  cases c with
  | true => exact h
  | false => exact Uni.none
theorem Uni.gcall {α : Type} {f : (CR → Option R) → Option R} (hf : Uni f) (p : List (Nat × Bool)) (q : Bool) (d : CR) {F : CR → (α → Option R) → Option R} (hF : ∀ x, Uni (F x)) : Uni (fun k => Soft.gcall p q f d fun x => F x k) := by
  cases p with
  | nil => exact hf.bind hF
  | cons a p => cases q with
    | true => exact hf.bind hF
    | false => exact hF d

theorem runOp_uni (hE : ∀ f acs vin, Uni (E.fn f acs vin)) (ops : Array Oper) (s : St) (o : Oper) :
    Uni (fun k : List (Nat × Bool) × Bool × AV × Dl → Option R => runOp X E ops s o fun p q v δ => k (p, q, v, δ)) := by
  simp only [runOp]
  cases hg : guardP ops s o.guard with
  | none => exact Uni.none
  | some pq =>
    obtain ⟨p, q⟩ := pq
    simp only
    split
    · split
      · split
        · exact Uni.none
        · split
          · exact Uni.none
          · split
            · refine Uni.gcall (hE _ _ _) _ _ _ fun cr => ?_
              split
              · exact Uni.none
              · split
                · exact Uni.one _
                · exact Uni.none
            · exact Uni.none
      · exact Uni.none
    · split
      · exact Uni.none
      · exact Uni.one _
      · exact Uni.chk (Uni.one _) _
      · split
        · exact Uni.one _
        · exact Uni.none
      · split
        · exact Uni.chk (Uni.one _) _
        · exact Uni.none

theorem execOps_uni (hE : ∀ f acs vin, Uni (E.fn f acs vin)) (ops : Array Oper) (draw : Bool) : ∀ (l : List Oper) (s : St) (fp : List Fp), Uni (fun k : St × List Fp → Option R => execOps X E ops draw l s fp fun s f => k (s, f))
  | [], s, fp => Uni.one _
  | o :: l, s, fp => by
    simp only [execOps]
    cases draw with
    | false => exact (runOp_uni hE ops s o).bind (F := fun x k => execOps X E ops false l ((s.app x.2.2.2).put o.dst (gd x.1 x.2.1 x.2.2.1)) fp fun s f => k (s, f)) fun x => execOps_uni hE ops false l _ _
    | true =>
      exact (runOp_uni hE ops (s.cut ops o) o).bind (F := fun x k => execOps X E ops true l ((s.app x.2.2.2).put o.dst (gd x.1 x.2.1 x.2.2.1)) (fp ++ [fpOf ops s o x.2.2.1 x.2.2.2]) fun s f => k (s, f))
        fun x => execOps_uni hE ops true l _ _

theorem execReg_uni (hE : ∀ f acs vin, Uni (E.fn f acs vin)) (ops : Array Oper) (draw : Bool) (s : St) : Uni (fun k : St → Option R => execReg X E ops draw s k) := by
  simp only [execReg]
  split
  · exact Uni.none
  · cases draw with
    | false => exact (execOps_uni (X := X) hE ops false ops.toList s []).map (fun x : St × List Fp => (⟨dropGs x.1.tm, x.1.vs, x.1.rs⟩ : St))
    | true =>
      refine (execOps_uni (X := X) hE ops true ops.toList s []).bind (F := fun (x : St × List Fp) (k : St → Option R) => match edgeLt 0 ops.toList && (gdAnc (ancs [] ops.toList) 0 ops.toList && apartAll (ancs [] ops.toList) 0 [] x.2) with
        | true => k ⟨dropGs x.1.tm, x.1.vs, x.1.rs⟩
        | false => Option.none) fun x => ?_
      split
      · exact Uni.one _
      · exact Uni.none

theorem exec_uni (hE : ∀ f acs vin, Uni (E.fn f acs vin)) (hL : ∀ c i l, Uni (fun k : Ex × St → Option R => lp c i l fun e s => k (e, s))) : ∀ (c : Code) (s : St), Uni (fun k : Ex × St → Option R => exec X E L lp c s fun e s => k (e, s))
  | .skip, s => Uni.one _
  | .region _ ops draw, s => (execReg_uni hE ops draw s).map fun s => (Ex.normal, s)
  | .seq a b, s => by
    simp only [exec]
    refine (exec_uni hE hL a s).bind (F := fun x k => match x.1 with
      | .normal => exec X E L lp b x.2 fun e s => k (e, s)
      | e => k (e, x.2)) fun x => ?_
    obtain ⟨e, s'⟩ := x
    cases e with
    | normal => exact exec_uni hE hL b s'
    | _ => exact Uni.one _
  | .cond c a b, s => by
    simp only [exec]
    split
    · rename_i x _
      cases x with
      | true => exact exec_uni hE hL a s
      | false => exact exec_uni hE hL b s
    · exact Uni.none
  | .block id c, s => by
    simp only [exec]
    refine (exec_uni hE hL c s).bind (F := fun x k => match x.1 with
      | .exit i => match Nat.beq i id with
        | true => k (.normal, x.2)
        | false => k (x.1, x.2)
      | e => k (e, x.2)) fun x => ?_
    obtain ⟨e, s'⟩ := x
    cases e with
    | exit i =>
      simp only
      split
      · exact Uni.one _
      · exact Uni.one _
    | _ => exact Uni.one _
  | .loop c, s => by
    simp only [exec]
    split
    · exact Uni.none
    · split
      · exact hL _ _ _
      · exact Uni.none
  | .exit id, s => Uni.one _
  | .ret, s => Uni.one _
  | .rangeFunc .., s => Uni.none
  | .scope _, s => Uni.none
  | .label _, s => Uni.none
  | .goto _, s => Uni.none
  | .refuse _, s => Uni.none

theorem round_uni (hE : ∀ f acs vin, Uni (E.fn f acs vin)) (hL : ∀ c i l, Uni (fun k : Ex × St → Option R => lp c i l fun e s => k (e, s))) (c : Code) (i : Nat) (l : List Val) :
    Uni (fun k : Ex × St → Option R => round X E L lp c i l fun e s => k (e, s)) := by
  simp only [round]
  split
  · exact Uni.none
  · rename_i A _
    split
    · exact Uni.none
    · rename_i s _
      refine (exec_uni hE hL c s).bind (F := fun x k => match x.1 with
        | .normal => exec X E L lp (.loop c) x.2 fun e s => k (e, s)
        | e => k (e, A.leave e x.2)) fun x => ?_
      obtain ⟨e, s'⟩ := x
      cases e with
      | normal => exact exec_uni hE hL (.loop c) s'
      | _ => exact Uni.one _

end Go.Soft
