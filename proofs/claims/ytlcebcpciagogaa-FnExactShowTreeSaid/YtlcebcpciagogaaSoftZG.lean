/-
  SoftZG: a function.
-/
import Derived.Test.YtlcebcpciagogaaSoftZF
set_option linter.constructorNameAsVariable false
set_option linter.unusedSimpArgs false
set_option linter.unusedVariables false
namespace Go.Soft
open Go
variable {X X' : Ctx} {m M : Lk} {γ γ' : Gh} {w w' : World} {ρ : Operand → Value} {S T : St} {δ δ' : Dl}

/-! ### of a context only the types matter here -/
section
theorem Sl.cx (hid : X'.id = X.id) {O : OM} {c : Cls} {τ : Ty} {v : Value} {n : Nat} {cs : List Value} (h : Sl X O w c τ v n cs) : Sl X' O w c τ v n cs := by
  cases c with
  | own t => exact ⟨by rw [hid]; exact h.1, h.2⟩
  | _ => exact h
theorem RowR.cx (hid : X'.id = X.id) {O : OM} {k : Nat} {row : Row} {v : Value} {cs : List Value} (h : RowR X O w k row v cs) : RowR X' O w k row v cs := by
  refine ⟨h.top.cx hid, fun e c ct he hc => ?_⟩
  obtain ⟨u, hu, hr⟩ := h.cel e c ct he hc
  refine ⟨u, hu, ?_⟩
  cases ct with
  | u => exact hr
  | l τ ys => exact ⟨hr.1, hr.2.cx hid⟩
  | _ => exact hr
theorem Rel.cx (hid : X'.id = X.id) (h : Rel X m γ w) : Rel X' m γ w := ⟨h.vs, fun k row hk => (h.rs k row hk).cx hid⟩
theorem Pre.cx (hid : X'.id = X.id) {g : Sig} {acs : List AC} {vin : List (List Ct)} {args : List Value} (h : Pre X g acs vin γ w args) : Pre X' g acs vin γ w args := ⟨h.rel.cx hid, h.top, h.args⟩
theorem NewR.cx (hid : X'.id = X.id) {O : OM} {md : Nat} {τ : Ty} {xs : List (El τ)} {v : Value} {ks : List Nat} (h : NewR X O w md τ xs v ks) : NewR X' O w md τ xs v ks := by
  rcases h with h | ⟨key, cs, h1, h2⟩
  · exact .inl h
  · exact .inr ⟨key, cs, h1, h2.cx hid⟩
variable {e0 : Lk} {γ0 : Gh} {K : List Nat} {O : OM}
theorem RelRc.cx (hid : X'.id = X.id) {md : Nat} {y : Rc} {v : Value} {ks : List Nat} (h : RelRc X e0 γ0 K O w md y v ks) : RelRc X' e0 γ0 K O w md y v ks := by
  cases y with
  | c ct =>
    cases ct with
    | l τ xs => exact ⟨h.1, h.2.cx hid⟩
    | _ => exact h
  | _ => exact h
theorem RelRcs.cx (hid : X'.id = X.id) {ms : List Nat} {y : List Rc} {v : List Value} {ks : List Nat} (h : RelRcs X e0 γ0 K O w ms y v ks) : RelRcs X' e0 γ0 K O w ms y v ks := by
  induction h with
  | nil => exact .nil
  | cons h1 _ ih => exact .cons (h1.cx hid) ih
theorem RelRts.cx (hid : X'.id = X.id) {ms : List (List Nat)} {y : List (Bool × List Rc)} {v : List Value} {ks : List Nat} (h : RelRts X e0 γ0 K O w ms y v ks) : RelRts X' e0 γ0 K O w ms y v ks := by
  induction h with
  | nil => exact .nil
  | cons h1 h2 h3 _ ih => exact .cons (h1.cx hid) h2 h3 ih
theorem RelRes.cx (hid : X'.id = X.id) {rl : List (List Nat)} {y : RC} {v : Value} {ks : List Nat} (h : RelRes X e0 γ0 K O w rl y v ks) : RelRes X' e0 γ0 K O w rl y v ks := by
  cases y with
  | u => exact h
  | c x => exact RelRc.cx hid h
  | a l => obtain ⟨us, h1, h2⟩ := h; exact ⟨us, h1, h2.cx hid⟩
  | t l => obtain ⟨us, h1, h2⟩ := h; exact ⟨us, h1, h2.cx hid⟩
  | np l => obtain ⟨cv, g, cur, e, h1, h2, h3, h4, h5⟩ := h; exact ⟨cv, g, cur, e, h1, h2, h3, h4, h5.cx hid⟩
theorem RelVc.cx (hid : X'.id = X.id) {key md : Nat} {y : Ct} {v : Value} {ks : List Nat} (h : RelVc X γ0 O w key md y v ks) : RelVc X' γ0 O w key md y v ks := by
  revert h
  simp only [RelVc]
  split
  · exact id
  · exact id
  · split
    · exact fun h => ⟨h.1, h.2.cx hid⟩
    · exact id
theorem RelVcs.cx (hid : X'.id = X.id) {k : Nat} {ms : List Nat} {y : List Ct} {v : List Value} {ks : List Nat} (h : RelVcs X γ0 O w k ms y v ks) : RelVcs X' γ0 O w k ms y v ks := by
  induction h with
  | nil => exact .nil
  | cons h1 _ ih => exact .cons (h1.cx hid) ih
theorem RelVo.cx (hid : X'.id = X.id) {k : Nat} {ms : List (List Nat)} {y : List (List Ct)} {ks : List Nat} (h : RelVo X γ0 O w k ms y ks) : RelVo X' γ0 O w k ms y ks := by
  induction h with
  | nil => exact .nil
  | cons h1 h2 h3 _ ih => exact .cons h1 h2 (h3.cx hid) ih
theorem RelIo.cx (hid : X'.id = X.id) {p : Nat} {acs : List AC} {y : List Ct} {ks : List Nat} (h : RelIo X γ0 O w p acs y ks) : RelIo X' γ0 O w p acs y ks := by
  induction h with
  | nil => exact .nil
  | io h1 _ ih => exact .io (h1.cx hid) ih
  | skip h1 _ ih => exact .skip h1 ih
theorem Post.cx (hid : X'.id = X.id) {g : Sig} {acs : List AC} {vin : List (List Ct)} {cr : CR} {v : Value} (h : Post X g acs vin γ0 w cr v w') : Post X' g acs vin γ0 w cr v w' := by
  obtain ⟨O, ka, kb, kc, h1, h2, h3, h4, h5⟩ := h
  exact ⟨O, ka, kb, kc, h1, h2, h3.cx hid, h4.cx hid, h5.cx hid⟩
end

theorem FnOk.at {R : Type} {g : Sig} {f : FuncId} {F : FunR R} (h : FnOk X g f F) (fn : Func) : FnOk (X.at fn) g f F :=
  ⟨h.uni, fun acs vin cr hF γ w args hp => (h.ok acs vin cr hF γ w args (Pre.cx (X := X.at fn) (X' := X) rfl hp)).mono fun e w' ⟨v, h1, h2⟩ => ⟨v, h1, Post.cx (X := X) (X' := X.at fn) rfl h2⟩⟩
theorem EnvOk.at {R : Type} {E : Env R} (h : EnvOk X E) (fn : Func) : EnvOk (X.at fn) E := ⟨fun f g hg => ⟨(h.fn f g hg).1.at fn, (h.fn f g hg).2⟩, h.uni⟩
theorem CtxOk.at (h : CtxOk X) (fn : Func) : CtxOk (X.at fn) := ⟨h.ty, h.id, h.byte, h.eqs, h.mixed⟩

/-! ### the result -/
def resSem (tmps : Array Value) : ResultVar → Sem Value
  | .tmp t => pure (tmps.getD t undef)
  | .cell a t => do loadVar t (← asAddr (tmps.getD a undef))
theorem resV1_ok {a : Act} (hR : Rel X S.lk γ w) (hT : RelT X S γ a) {r : ResultVar} {v : AV} (h : resV1 X S r = some v) : ∃ u, (resSem a.tmps r).run X.P w = .ok u w ∧ RelA S.lk γ v u := by
  cases r with
  | tmp t => cases h; exact ⟨_, rfl, get_rel hT t⟩
  | cell t T =>
    simp only [resV1] at h
    have hg := get_rel hT t
    revert h; split
    · rename_i c hc
      rw [hc] at hg
      cases hf : S.lk.from c with
      | none => intro h; cases h
      | some cs =>
        simp only
        cases hb : Nat.ble (szOf X.P T) cs.length && ldOk X.P T with
        | false => intro h; cases h
        | true =>
          intro h; cases h
          simp only [Bool.and_eq_true] at hb
          have hne : c ≠ .un := fun e => by subst e; cases hf
          have hrel := RelA.to hg hne
          obtain ⟨g, o, us, hp, _, _⟩ := from_ok (Le.refl _) hR hrel hf
          obtain ⟨u, hu, hru⟩ := load_ok (Le.refl _) hR hrel hf hb.1 hb.2
          refine ⟨u, ?_, hru⟩
          rw [hp] at hu
          simp only [resSem, hp, asAddr]
          simpa [Instr.loadAt, Instr.sureAddr] using hu
    · intro h; cases h
theorem resVs_ok {a : Act} (hR : Rel X S.lk γ w) (hT : RelT X S γ a) : ∀ {l : List ResultVar} {v : List (Bool × List Cv)}, resVs X S l = some v → ∃ us, (l.mapM (resSem a.tmps)).run X.P w = .ok us w ∧ RelTs S.lk γ v us ∧ us.length = l.length
  | [], v, h => by cases h; exact ⟨[], by simp, .nil, rfl⟩
  | r :: l, v, h => by
    simp only [resVs] at h
    cases h1 : resV1 X S r with
    | none => simp [h1] at h
    | some x =>
      cases h2 : resVs X S l with
      | none => rw [h1, h2] at h; revert h; split <;> simp_all
      | some y =>
        obtain ⟨u, hu, hru⟩ := resV1_ok hR hT h1
        obtain ⟨us, hus, hrs, hl⟩ := resVs_ok hR hT h2
        refine ⟨u :: us, ?_, ?_, by simp [hl]⟩
        · simp only [List.mapM_cons, Sem.run_bind, hu, Result.andThen_ok, hus, Sem.run_pure]
        · rw [h1, h2] at h
          cases x with
          | c z =>
            by_cases hz : z = .un
            · subst hz; simp at h
            · have hzz : v = (false, [z]) :: y := by cases z <;> first | exact absurd rfl hz | (simp only [Option.some.injEq] at h; exact h.symm)
              subst hzz
              exact .cons ⟨[u], .cons (RelA.to hru hz) .nil, fun h => (by cases h), fun _ => rfl⟩ hrs
          | a z =>
            simp only [Option.some.injEq] at h
            subst h
            obtain ⟨us', h3, h4⟩ := hru
            exact .cons ⟨us', h4, fun _ => h3, fun h => (by cases h)⟩ hrs
          | t z => simp at h
          | g p q z => simp at h
theorem resV_ok {a : Act} (hR : Rel X S.lk γ w) (hT : RelT X S γ a) {fn : Func} {v : AV} (h : resV X S fn.results.toList = some v) : ∃ u, (results fn a.tmps).run X.P w = .ok u w ∧ RelA S.lk γ v u := by
  have hres : ∀ us, (fn.results.toList.mapM (resSem a.tmps)).run X.P w = .ok us w → (results fn a.tmps).run X.P w = .ok (if h : us.toArray.size = 1 then us.toArray[0] else .tuple us.toArray) w := by
    intro us hus
    have e : results fn a.tmps = (do
        let vs ← fn.results.mapM (resSem a.tmps)
        pure (if h : vs.size = 1 then vs[0] else .tuple vs)) := by
      simp only [results]
      congr 1
    rw [e, Array.mapM_eq_mapM_toList]
    simp only [Sem.run_bind, map_eq_pure_bind, bind_assoc, pure_bind, hus, Result.andThen_ok, Sem.run_pure]
  revert h hres
  generalize fn.results.toList = l
  intro h hres
  have many : resVs X S l = some (match v with | .t m => m | _ => []) → (∃ m, v = .t m) → l.length ≠ 1 → ∃ u, (results fn a.tmps).run X.P w = .ok u w ∧ RelA S.lk γ v u := by
    intro h1 hv hl
    obtain ⟨m, rfl⟩ := hv
    obtain ⟨us, hus, hrs, hlen⟩ := resVs_ok hR hT h1
    refine ⟨_, hres us hus, ?_⟩
    rw [dif_neg (by simp; omega)]
    exact ⟨us, rfl, hrs⟩
  have step : (match resVs X S l with | some m => some (AV.t m) | none => none) = some v → l.length ≠ 1 → ∃ u, (results fn a.tmps).run X.P w = .ok u w ∧ RelA S.lk γ v u := by
    intro h1 hl
    cases h2 : resVs X S l with
    | none => rw [h2] at h1; cases h1
    | some m => rw [h2] at h1; cases h1; exact many h2 ⟨m, rfl⟩ hl
  match l, h, hres, step with
  | [r], h, hres, _ =>
    obtain ⟨u, hu, hru⟩ := resV1_ok hR hT h
    exact ⟨u, by simpa using hres [u] (by simp [hu]), hru⟩
  | [], h, _, step => exact step h (by simp)
  | _ :: _ :: _, h, _, step => exact step h (by simp)

/-! ### a function -/
theorem lk_zipT : ∀ (l : List AV) (n t : Nat), lk (zipT n l) t = if n ≤ t then l[t - n]? else none
  | [], n, t => by simp [zipT, lk]
  | v :: l, n, t => by
    simp only [zipT, lk, lk_zipT l (n + 1) t]
    cases h : Nat.beq n t with
    | true => have := nat_beq h; subst this; simp
    | false =>
      have hne : n ≠ t := fun e => by subst e; rw [Nat.beq_refl] at h; cases h
      by_cases h1 : n + 1 ≤ t
      · rw [if_pos h1, if_pos (by omega), show t - n = (t - (n + 1)) + 1 by omega]; simp
      · rw [if_neg h1, if_neg (by omega)]
theorem entA_noG {g : Sig} {acs : List AC} {vin : List (List Ct)} : gfree (entry g acs vin) := by
  intro t p q v h
  have h : lk (zipT 0 (entA g.am 0 acs).1) t = some (.g p q v) := h
  rw [lk_zipT, if_pos (Nat.zero_le _), entA_get] at h
  cases hx : acs[t - 0]? with
  | none => rw [hx] at h; cases h
  | some x => rw [hx] at h; cases x <;> simp [entAV] at h

variable {R : Type} {E : Env R}
/-- a function of the program, by what the interpreter comes to -/
theorem fn_ok (r0 : R) (hX : CtxOk X) (hE : EnvOk X E) {L : Live} {g : Sig} {f : FuncId} {fn : Func} {body : Code} {lps : Nat → Loop R} {F : FunR R}
    (hf : X.P.funcs[f]? = some fn) (hb : fn.body = some body) (hl : LpsOk (X.at fn) E L body lps)
    (hF : ∀ acs vin, F acs vin = (fun _ => none) ∨ ∃ n, F acs vin = fnRun X E L (lps n) g fn acs vin) : FnOk X g f F := by
  have hXf := hX.at fn
  have hEf := hE.at fn
  have euni : ∀ n c s, Uni (fun k : Ex × St → Option R => exec (X.at fn) E L (lps n) c s fun e s => k (e, s)) := fun n c s => exec_uni hEf.uni (fun c i l => lps_uni hEf.uni hl n c i l) c s
  -- what is done at the end
  let G : List AC → (CR → Option R) → Ex × St → Option R := fun acs k x => match x.1 with
    | .exit _ => none
    | _ => match x.2.out (X.at fn) g acs fn with | some r => k r | none => none
  have hrun : ∀ n acs vin k, fnRun X E L (lps n) g fn acs vin k = exec (X.at fn) E L (lps n) body (entry g acs vin) fun e s => (match e with
      | .exit _ => none
      | _ => match s.out X g acs fn with | some r => k r | none => none) := by
    intro n acs vin k; simp only [fnRun, hb]; rfl
  have hout : ∀ (s : St) (acs : List AC), s.out (X.at fn) g acs fn = s.out X g acs fn := fun s acs => by
    have h1 : ∀ r, resV1 (X.at fn) s r = resV1 X s r := fun r => by cases r <;> rfl
    have h2 : ∀ l, resVs (X.at fn) s l = resVs X s l := by
      intro l
      induction l with
      | nil => rfl
      | cons r l ih => simp only [resVs, h1, ih]
    have h3 : ∀ l, resV (X.at fn) s l = resV X s l := by
      intro l
      simp only [resV, h1, h2]
    simp only [St.out, h3]
  have hrun2 : ∀ n acs vin k, fnRun X E L (lps n) g fn acs vin k = (fun k : Ex × St → Option R => exec (X.at fn) E L (lps n) body (entry g acs vin) fun e s => k (e, s)) (G acs k) := by
    intro n acs vin k
    rw [hrun]
    show exec (X.at fn) E L (lps n) body (entry g acs vin) _ = exec (X.at fn) E L (lps n) body (entry g acs vin) _
    congr 1
    funext e s
    show _ = (match e with
      | .exit _ => none
      | _ => match s.out (X.at fn) g acs fn with | some r => k r | none => none)
    rw [hout]
  have hGu : ∀ acs x, Uni (fun k => G acs k x) := by
    intro acs x
    obtain ⟨e, s⟩ := x
    have : Uni (fun k : CR → Option R => match s.out (X.at fn) g acs fn with | some r => k r | none => none) := by
      cases s.out (X.at fn) g acs fn with
      | none => exact Uni.none
      | some r => exact Uni.one r
    cases e with
    | exit i => exact Uni.none
    | normal => exact this
    | ret => exact this
  refine ⟨fun acs vin => ?_, fun acs vin cr hK γ w args hp => ?_⟩
  · rcases hF acs vin with h | ⟨n, h⟩
    · rw [h]; exact Uni.none
    · rw [h]
      have := (euni n body (entry g acs vin)).bind (F := fun x k => G acs k x) (hGu acs)
      obtain ⟨o, ho⟩ := this
      exact ⟨o, fun k => by rw [hrun2]; exact ho k⟩
  · rcases hF acs vin with h | ⟨n, h⟩
    · rw [h] at hK; exact (ev_none r0 hK).elim
    · rw [h] at hK
      obtain ⟨oc, hoc⟩ := euni n body (entry g acs vin)
      have hK2 : ∀ k, oc.bind (G acs k) = k cr := fun k => by
        rw [← hK k, hrun2]; exact (hoc (G acs k)).symm
      cases oc with
      | none => exact (ev_none r0 hK2).elim
      | some x =>
        obtain ⟨e, s⟩ := x
        have hne : (e = .normal ∨ e = .ret) ∧ s.out (X.at fn) g acs fn = some cr := by
          have hend : (∀ k : CR → Option R, (match s.out (X.at fn) g acs fn with | some r => k r | none => none) = k cr) → s.out (X.at fn) g acs fn = some cr := by
            intro h
            cases ho : s.out (X.at fn) g acs fn with
            | none => rw [ho] at h; exact (ev_none r0 h).elim
            | some r => rw [ho] at h; rw [ev_inj r0 h]
          cases e with
          | exit i => exact (ev_none r0 hK2).elim
          | normal => exact ⟨.inl rfl, hend hK2⟩
          | ret => exact ⟨.inr rfl, hend hK2⟩
        obtain ⟨he, ho⟩ := hne
        have hpX := Pre.cx (X := X) (X' := X.at fn) rfl hp
        refine calls_of_wp hf hb ?_
        -- the state at the beginning
        have hargs := RelAs.get hpX.args
        have hI : Inv (X.at fn) (entry g acs vin).lk γ w (entry g acs vin) γ { tmps := args.toArray ++ Array.replicate (fn.ntmps - args.toArray.size) undef, defers := [] } w := by
          refine ⟨hpX.rel, hpX.top, ⟨?_, fun t av ht => ?_⟩, rfl, ⟨rfl, rfl, rfl, Nat.le_refl _, fun _ _ _ => ⟨rfl, rfl⟩, hpX.top⟩, fun k row _ _ h _ => ⟨h, rfl, rfl⟩, fun _ _ _ => rfl, fun _ _ => rfl⟩
          · show fn.ntmps ≤ _
            simp; omega
          · have ht : lk (zipT 0 (entA g.am 0 acs).1) t = some av := ht
            rw [lk_zipT, if_pos (Nat.zero_le _)] at ht
            obtain ⟨u, hu, hr⟩ := hargs.2 t av (by simpa using ht)
            have hlt : t < args.length := (List.getElem?_eq_some_iff.1 hu).1
            have : (args.toArray ++ Array.replicate (fn.ntmps - args.toArray.size) undef).getD t undef = u := by
              rw [Array.getD_eq_getD_getElem?, Array.getElem?_append_left (by simpa using hlt)]
              simp [hu]
            rw [this]; exact hr
        refine exec_ok r0 hXf hEf hl (lpR r0 hXf hEf hl n) body (entry g acs vin) e s γ _ w _ (fun d hd => getLoop_of hl.nd hd) entA_noG hI hoc fun hg γ' a' w' hI' => ?_
        have hfin : a'.defers = [] ∧ ∃ v, (results fn a'.tmps).run X.P w' = .ok v w' ∧ ∃ v', Ending.returned v = .returned v' ∧ Post X g acs vin γ w cr v' w' := by
          refine ⟨hI'.df, ?_⟩
          cases hv : resV (X.at fn) s fn.results.toList with
          | none => simp [St.out, hv] at ho
          | some v =>
            obtain ⟨u, hu, hru⟩ := resV_ok hI'.rel hI'.tmp hv
            exact ⟨u, hu, u, rfl, Post.cx (X := X.at fn) (X' := X) rfl (out_ok hI' rfl hru hv ho)⟩
        rcases he with rfl | rfl
        · exact hfin
        · exact hfin

end Go.Soft
