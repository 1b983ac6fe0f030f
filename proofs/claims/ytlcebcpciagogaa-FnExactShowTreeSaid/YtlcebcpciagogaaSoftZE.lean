/-
  SoftZE: code.
-/
import Derived.Test.YtlcebcpciagogaaSoftZD
import Derived.LoopN
set_option linter.constructorNameAsVariable false
set_option linter.unusedSimpArgs false
set_option linter.unusedVariables false
namespace Go.Soft
open Go
variable {X : Ctx} {m M : Lk} {γ γ' : Gh} {w w' : World} {ρ : Operand → Value} {S T : St} {δ δ' : Dl}

def exOf : Ex → Exit
  | .normal => .normal | .exit i => .exit i | .ret => .ret

/-- the bodies of the loops -/
def loops : Code → List Code
  | .loop c => c :: loops c
  | .seq a b => loops a ++ loops b
  | .cond _ a b => loops a ++ loops b
  | .block _ a => loops a
  | _ => []
theorem getLoop_find (n : Nat) : ∀ c : Code, getLoop n c = (loops c).find? fun d => Nat.beq (loopId d) n
  | .loop c => by
    simp only [getLoop, loops, List.find?_cons, getLoop_find n c]
    cases Nat.beq (loopId c) n <;> rfl
  | .seq a b => by
    simp only [getLoop, loops, List.find?_append, getLoop_find n a, getLoop_find n b]
    cases (loops a).find? fun d => Nat.beq (loopId d) n <;> rfl
  | .cond _ a b => by
    simp only [getLoop, loops, List.find?_append, getLoop_find n a, getLoop_find n b]
    cases (loops a).find? fun d => Nat.beq (loopId d) n <;> rfl
  | .block _ a => by simp only [getLoop, loops, getLoop_find n a]
  | .skip => rfl
  | .region .. => rfl
  | .exit _ => rfl
  | .ret => rfl
  | .rangeFunc .. => rfl
  | .scope _ => rfl
  | .label _ => rfl
  | .goto _ => rfl
  | .refuse _ => rfl
theorem loops_trans : ∀ {b c : Code}, c ∈ loops b → ∀ d ∈ loops c, d ∈ loops b
  | .loop a, c, h, d, hd => by
    simp only [loops, List.mem_cons] at h ⊢
    rcases h with rfl | h
    · exact .inr hd
    · exact .inr (loops_trans h d hd)
  | .seq a b, c, h, d, hd => by
    simp only [loops, List.mem_append] at h ⊢
    exact h.imp (fun h => loops_trans h d hd) (fun h => loops_trans h d hd)
  | .cond _ a b, c, h, d, hd => by
    simp only [loops, List.mem_append] at h ⊢
    exact h.imp (fun h => loops_trans h d hd) (fun h => loops_trans h d hd)
  | .block _ a, c, h, d, hd => by simp only [loops] at h ⊢; exact loops_trans h d hd
  | .skip, c, h, _, _ => by simp [loops] at h
  | .region .., c, h, _, _ => by simp [loops] at h
  | .exit _, c, h, _, _ => by simp [loops] at h
  | .ret, c, h, _, _ => by simp [loops] at h
  | .rangeFunc .., c, h, _, _ => by simp [loops] at h
  | .scope _, c, h, _, _ => by simp [loops] at h
  | .label _, c, h, _, _ => by simp [loops] at h
  | .goto _, c, h, _, _ => by simp [loops] at h
  | .refuse _, c, h, _, _ => by simp [loops] at h
def loopIds (c : Code) : List Nat := fmap loopId (loops c)
theorem getLoop_mem {n : Nat} {b c : Code} (h : getLoop n b = some c) : c ∈ loops b ∧ loopId c = n := by
  rw [getLoop_find] at h
  exact ⟨List.mem_of_find?_eq_some h, nat_beq (List.find?_some (p := fun d => Nat.beq (loopId d) n) h)⟩
theorem getLoop_of {b c : Code} (hn : nodupN (loopIds b) = true) (h : c ∈ loops b) : getLoop (loopId c) b = some c := by
  have hn2 := nodupN_iff.1 hn
  simp only [loopIds, fmap_eq] at hn2
  rw [getLoop_find]
  clear hn
  revert hn2 h
  generalize loops b = l
  intro h hn
  induction l with
  | nil => cases h
  | cons x l ih =>
    simp only [List.map_cons, List.nodup_cons] at hn
    rw [List.find?_cons]
    rcases List.mem_cons.1 h with rfl | h
    · rw [Nat.beq_refl]
    · have hne : Nat.beq (loopId x) (loopId c) = false := by
        cases hb : Nat.beq (loopId x) (loopId c) with
        | false => rfl
        | true => exact absurd (List.mem_map.2 ⟨c, h, (nat_beq hb).symm⟩) hn.1
      rw [hne]; exact ih h hn.2

section
variable {R : Type} {E : Env R} {L : Live} {body : Code} {lps : Nat → Loop R}

/-- the loops of a body, each for so many rounds -/
structure LpsOk (X : Ctx) (E : Env R) (L : Live) (body : Code) (lps : Nat → Loop R) : Prop where
  z : ∀ id i l, lps 0 id i l = fun _ => none
  s : ∀ n id i l, lps (n + 1) id i l = (fun _ => none) ∨ ∃ c, getLoop id body = some c ∧ lps (n + 1) id i l = round X E L (lps n) c i l
  nd : nodupN (loopIds body) = true

theorem lps_uni (hE : ∀ f acs vin, Uni (E.fn f acs vin)) (hl : LpsOk X E L body lps) : ∀ n id i l, Uni (fun k : Ex × St → Option R => lps n id i l fun e s => k (e, s))
  | 0, id, i, l => by rw [hl.z]; exact Uni.none
  | n + 1, id, i, l => by
    rcases hl.s n id i l with h | ⟨c, _, h⟩
    · rw [h]; exact Uni.none
    · rw [h]; exact round_uni hE (lps_uni hE hl n) c i l

variable {e0 : Lk} {γ0 : Gh} {w0 : World}
theorem formOf_ok {k : Sk} : ∀ {l : List Sk} {n i : Nat}, formOf k n l = some i → ∃ sk, n ≤ i ∧ l[i - n]? = some sk ∧ eqSk k sk = true
  | [], n, i, h => by cases h
  | s :: l, n, i, h => by
    simp only [formOf] at h
    cases hs : eqSk k s with
    | true => rw [hs] at h; cases h; exact ⟨s, Nat.le_refl _, by simp, hs⟩
    | false =>
      rw [hs] at h
      obtain ⟨sk, h1, h2, h3⟩ := formOf_ok h
      refine ⟨sk, by omega, ?_, h3⟩
      rw [show i - n = (i - (n + 1)) + 1 by omega]; simpa using h2

/-- the loops keep their word for n rounds -/
def LpR (X : Ctx) (E : Env R) (L : Live) (body : Code) (lps : Nat → Loop R) (e0 : Lk) (γ0 : Gh) (w0 : World) (n : Nat) : Prop :=
  ∀ (c : Code) (A : Ann) (i : Nat) (l : List Val) (sk : Sk) (s : St) (e : Ex) (s' : St) (γ : Gh) (a : Act) (w : World) (Q : Exit → Act → World → Prop), getLoop (loopId c) body = some c → lk L (loopId c) = some A →
    nth A.sk i = some sk → unflat sk l = some s → gfree s → Inv X e0 γ0 w0 s γ a w → (∀ K : Ex × St → Option R, (lps n (loopId c) i l fun e s => K (e, s)) = K (e, s')) →
    (gfree s' → ∀ γ' a' w', Inv X e0 γ0 w0 s' γ' a' w' → Q (exOf e) a' w') → Code.rounds X.P c Q n a w

/-- at a loop's head -/
theorem head_ok (r0 : R) {n : Nat} (hl : LpR X E L body lps e0 γ0 w0 n) {c : Code} (hc : getLoop (loopId c) body = some c) {s : St} {e : Ex} {s' : St} {γ : Gh} {a : Act} {w : World} {Q : Exit → Act → World → Prop}
    (hI : Inv X e0 γ0 w0 s γ a w) (hK : ∀ K : Ex × St → Option R, (exec X E L (lps n) (.loop c) s fun e s => K (e, s)) = K (e, s'))
    (hQ : gfree s' → ∀ γ' a' w', Inv X e0 γ0 w0 s' γ' a' w' → Q (exOf e) a' w') : Code.rounds X.P c Q n a w := by
  simp only [exec] at hK
  cases hA : lk L (loopId c) with
  | none => simp only [hA] at hK; exact (ev_none r0 hK).elim
  | some A =>
    simp only [hA] at hK
    obtain ⟨γ1, hW, h3⟩ := freeze_ok A.fz hI
    obtain ⟨hng, γ2, hI2⟩ := prune_ok A.ts A.vk hW h3
    revert hK
    generalize hS1 : (s.freeze A.fz).prune A.ts A.vk = S1 at hng hI2
    intro hK
    cases hf : flat S1 with
    | mk k l =>
      simp only [hf] at hK
      cases hfo : formOf k 0 A.sk with
      | none => simp only [hfo] at hK; exact (ev_none r0 hK).elim
      | some i =>
        simp only [hfo] at hK
        obtain ⟨sk, _, h2, h4⟩ := formOf_ok hfo
        have h4' : eqSk (flat S1).1 sk = true := by rw [hf]; exact h4
        obtain ⟨γ3, hI3⟩ := unflat_ok h4' hI2
        have hu : unflat sk l = some ⟨S1.tm, S1.vs, lowRs S1.rs sk.rs⟩ := by
          have := unflat_eq hng h4'; rw [hf] at this; exact this
        exact hl c A i l sk _ e s' γ3 a w Q hc hA (by rw [nth_eq]; simpa using h2) hu (noG_gfree (S := ⟨S1.tm, S1.vs, lowRs S1.rs sk.rs⟩) hng) hI3 hK hQ

theorem exec_ok (r0 : R) (hX : CtxOk X) (hE : EnvOk X E) (hl0 : LpsOk X E L body lps) {n : Nat} (hl : LpR X E L body lps e0 γ0 w0 n) :
    ∀ (c : Code) (s : St) (e : Ex) (s' : St) (γ : Gh) (a : Act) (w : World) (Q : Exit → Act → World → Prop), (∀ d ∈ loops c, getLoop (loopId d) body = some d) → gfree s → Inv X e0 γ0 w0 s γ a w →
      (∀ K : Ex × St → Option R, (exec X E L (lps n) c s fun e s => K (e, s)) = K (e, s')) →
      (gfree s' → ∀ γ' a' w', Inv X e0 γ0 w0 s' γ' a' w' → Q (exOf e) a' w') → c.wp X.P Q a w
  | .skip, s, e, s', γ, a, w, Q, _, hg, hI, hK, hQ => by
    have := ev_inj r0 hK; cases this
    exact wp_skip (hQ hg γ a w hI)
  | .exit id, s, e, s', γ, a, w, Q, _, hg, hI, hK, hQ => by
    have := ev_inj r0 hK; cases this
    exact wp_exit (hQ hg γ a w hI)
  | .ret, s, e, s', γ, a, w, Q, _, hg, hI, hK, hQ => by
    have := ev_inj r0 hK; cases this
    exact wp_ret (hQ hg γ a w hI)
  | .region id ops draw, s, e, s', γ, a, w, Q, _, hg, hI, hK, hQ => by
    simp only [exec] at hK
    obtain ⟨oc, hoc⟩ := execReg_uni (X := X) hE.uni ops draw s
    cases oc with
    | none => exact (ev_none r0 (α := Ex × St) (y := (e, s')) fun K => (hoc fun s => K (.normal, s)).symm.trans (hK K)).elim
    | some s1 =>
      have : (Ex.normal, s1) = (e, s') := ev_inj r0 fun K => (hoc fun s => K (.normal, s)).symm.trans (hK K)
      cases this
      exact reg_ok r0 hX hE hoc hg hI hQ
  | .seq x y, s, e, s', γ, a, w, Q, hd, hg, hI, hK, hQ => by
    simp only [exec] at hK
    obtain ⟨oc, hoc⟩ := exec_uni hE.uni (fun c i l => lps_uni hE.uni hl0 n c i l) x s
    have hdx : ∀ d ∈ loops x, getLoop (loopId d) body = some d := fun d h => hd d (by simp only [loops, List.mem_append]; exact .inl h)
    have hdy : ∀ d ∈ loops y, getLoop (loopId d) body = some d := fun d h => hd d (by simp only [loops, List.mem_append]; exact .inr h)
    let F : (Ex × St → Option R) → Ex × St → Option R := fun K x => match x.1 with
      | .normal => exec X E L (lps n) y x.2 fun e s => K (e, s)
      | e => K (e, x.2)
    have hF : ∀ K, oc.bind (F K) = K (e, s') := fun K => (hoc (F K)).symm.trans (hK K)
    cases oc with
    | none => exact (ev_none r0 hF).elim
    | some x1 =>
      obtain ⟨e1, s1⟩ := x1
      refine wp_seq (exec_ok r0 hX hE hl0 hl x s e1 s1 γ a w _ hdx hg hI hoc fun hg1 γ1 a1 w1 hI1 => ?_)
      cases e1 with
      | normal => exact exec_ok r0 hX hE hl0 hl y s1 e s' γ1 a1 w1 Q hdy hg1 hI1 hF hQ
      | exit i =>
        have := ev_inj r0 hF; cases this
        exact hQ hg1 γ1 a1 w1 hI1
      | ret =>
        have := ev_inj r0 hF; cases this
        exact hQ hg1 γ1 a1 w1 hI1
  | .cond c x y, s, e, s', γ, a, w, Q, hd, hg, hI, hK, hQ => by
    have hdx : ∀ d ∈ loops x, getLoop (loopId d) body = some d := fun d h => hd d (by simp only [loops, List.mem_append]; exact .inl h)
    have hdy : ∀ d ∈ loops y, getLoop (loopId d) body = some d := fun d h => hd d (by simp only [loops, List.mem_append]; exact .inr h)
    simp only [exec] at hK
    revert hK; split
    · rename_i b hb
      intro hK
      have hv := opnd_g (s' := s) hI.tmp (gfree_GInv hg) (fun _ _ h => h) (p := []) (fun x hx => by cases hx) 0 c
      rw [hb] at hv
      have hv : a.eval c = .bool b := hv
      cases b with
      | true => exact wp_cond hv (exec_ok r0 hX hE hl0 hl x s e s' γ a w Q hdx hg hI hK hQ)
      | false => exact wp_cond hv (exec_ok r0 hX hE hl0 hl y s e s' γ a w Q hdy hg hI hK hQ)
    · intro hK; exact (ev_none r0 hK).elim
  | .block id c, s, e, s', γ, a, w, Q, hd, hg, hI, hK, hQ => by
    simp only [exec] at hK
    obtain ⟨oc, hoc⟩ := exec_uni hE.uni (fun c i l => lps_uni hE.uni hl0 n c i l) c s
    let F : (Ex × St → Option R) → Ex × St → Option R := fun K x => match x.1 with
      | .exit i => match Nat.beq i id with
        | true => K (.normal, x.2)
        | false => K (x.1, x.2)
      | e => K (e, x.2)
    have hF : ∀ K, oc.bind (F K) = K (e, s') := fun K => (by
      refine (hoc (F K)).symm.trans (Eq.trans ?_ (hK K))
      congr 1)
    cases oc with
    | none => exact (ev_none r0 hF).elim
    | some x1 =>
      obtain ⟨e1, s1⟩ := x1
      refine wp_block (exec_ok r0 hX hE hl0 hl c s e1 s1 γ a w _ hd hg hI hoc fun hg1 γ1 a1 w1 hI1 => ?_)
      cases e1 with
      | normal =>
        have := ev_inj r0 hF; cases this
        exact hQ hg1 γ1 a1 w1 hI1
      | ret =>
        have := ev_inj r0 hF; cases this
        exact hQ hg1 γ1 a1 w1 hI1
      | exit i =>
        have hF : ∀ K : Ex × St → Option R, (match Nat.beq i id with | true => K (.normal, s1) | false => K (.exit i, s1)) = K (e, s') := hF
        show (if i = id then Q .normal a1 w1 else Q (.exit i) a1 w1)
        cases hb : Nat.beq i id with
        | true =>
          have := nat_beq hb; subst this
          rw [if_pos rfl]
          simp only [hb] at hF
          have := ev_inj r0 hF; cases this
          exact hQ hg1 γ1 a1 w1 hI1
        | false =>
          have hne : i ≠ id := fun h => by subst h; rw [Nat.beq_refl] at hb; cases hb
          rw [if_neg hne]
          simp only [hb] at hF
          have := ev_inj r0 hF; cases this
          exact hQ hg1 γ1 a1 w1 hI1
  | .loop c, s, e, s', γ, a, w, Q, hd, hg, hI, hK, hQ =>
    wp_loop_rounds n (head_ok r0 hl (hd c (by simp only [loops]; exact List.mem_cons_self)) hI hK hQ)
  | .rangeFunc .., s, e, s', γ, a, w, Q, _, hg, hI, hK, hQ => (ev_none r0 hK).elim
  | .scope _, s, e, s', γ, a, w, Q, _, hg, hI, hK, hQ => (ev_none r0 hK).elim
  | .label _, s, e, s', γ, a, w, Q, _, hg, hI, hK, hQ => (ev_none r0 hK).elim
  | .goto _, s, e, s', γ, a, w, Q, _, hg, hI, hK, hQ => (ev_none r0 hK).elim
  | .refuse _, s, e, s', γ, a, w, Q, _, hg, hI, hK, hQ => (ev_none r0 hK).elim

theorem leave_ok {s : St} {γ : Gh} {a : Act} {w : World} (A : Ann) (e : Ex) (hg : gfree s) (hI : Inv X e0 γ0 w0 s γ a w) : gfree (A.leave e s) ∧ ∃ γ', Inv X e0 γ0 w0 (A.leave e s) γ' a w := by
  simp only [Ann.leave]
  cases lk A.out e.num with
  | none => exact ⟨hg, γ, hI⟩
  | some p =>
    obtain ⟨ts, vk⟩ := p
    obtain ⟨h1, h2⟩ := prune_ok ts vk hI.weak fun k row h1 h2 => hI.i3 k row (by omega) h2
    exact ⟨noG_gfree h1, h2⟩

theorem lpR (r0 : R) (hX : CtxOk X) (hE : EnvOk X E) (hl : LpsOk X E L body lps) : ∀ n, LpR X E L body lps e0 γ0 w0 n
  | 0 => by
    intro c A i l sk s e s' γ a w Q hc hA hsk hu hg hI hK hQ
    rw [hl.z] at hK
    exact (ev_none r0 hK).elim
  | n + 1 => by
    intro c A i l sk s e s' γ a w Q hc hA hsk hu hg hI hK hQ
    have ih := lpR r0 hX hE hl n
    rcases hl.s n (loopId c) i l with h | ⟨c', hc', h⟩
    · rw [h] at hK; exact (ev_none r0 hK).elim
    · rw [hc] at hc'; cases hc'
      rw [h] at hK
      simp only [round, hA, hsk, hu] at hK
      obtain ⟨oc, hoc⟩ := exec_uni hE.uni (fun c i l => lps_uni hE.uni hl n c i l) c s
      let F : (Ex × St → Option R) → Ex × St → Option R := fun K x => match x.1 with
        | .normal => exec X E L (lps n) (.loop c) x.2 fun e s => K (e, s)
        | e => K (e, A.leave e x.2)
      have hF : ∀ K, oc.bind (F K) = K (e, s') := fun K => (hoc (F K)).symm.trans (hK K)
      have hcm := (getLoop_mem hc).1
      have hd : ∀ d ∈ loops c, getLoop (loopId d) body = some d := fun d h => getLoop_of hl.nd (loops_trans hcm d h)
      cases oc with
      | none => exact (ev_none r0 hF).elim
      | some x1 =>
        obtain ⟨e1, s1⟩ := x1
        rw [rounds_succ]
        refine exec_ok r0 hX hE hl ih c s e1 s1 γ a w _ hd hg hI hoc fun hg1 γ1 a1 w1 hI1 => ?_
        cases e1 with
        | normal => exact head_ok r0 ih hc hI1 hF hQ
        | exit j =>
          have := ev_inj r0 hF; cases this
          obtain ⟨h1, γ2, h2⟩ := leave_ok A (.exit j) hg1 hI1
          exact hQ h1 γ2 a1 w1 h2
        | ret =>
          have := ev_inj r0 hF; cases this
          obtain ⟨h1, γ2, h2⟩ := leave_ok A .ret hg1 hI1
          exact hQ h1 γ2 a1 w1 h2

end
end Go.Soft
