/-
  SoftZ: regions whose order is drawn.
-/
import Derived.Test.YtlcebcpciagogaaSoftY
import Derived.Orders
set_option linter.constructorNameAsVariable false
set_option linter.unusedSimpArgs false
set_option linter.unusedVariables false
namespace Go.Soft
open Go
variable {X : Ctx} {m M : Lk} {γ γ' : Gh} {w w' : World} {ρ : Operand → Value} {S T : St} {δ δ' : Dl}

section
variable {R : Type} {E : Env R} {ops : Array Oper}

/-! ### the records -/
def stI (S : St) (rs : List Rec) (i : Nat) : St := (rs.take i).foldl app1 S
def TrOk (X : Ctx) (E : Env R) (ops : Array Oper) (S : St) (rs : List Rec) : Prop := ∀ (i : Nat) (x : Rec), rs[i]? = some x →
  ∀ K : List (Nat × Bool) × Bool × AV × Dl → Option R, (runOp X E ops ((stI S rs i).cut ops x.o) x.o fun p q v δ => K (p, q, v, δ)) = K (x.p, x.q, x.v, x.δ)
def fpsL (ops : Array Oper) : St → List Rec → List Fp
  | _, [] => []
  | S, x :: l => fpOf ops S x.o x.v x.δ :: fpsL ops (app1 S x) l
theorem fpsL_get : ∀ (rs : List Rec) (S : St) (i : Nat) (x : Rec), rs[i]? = some x → (fpsL ops S rs)[i]? = some (fpOf ops (stI S rs i) x.o x.v x.δ)
  | [], _, _, _, h => by simp at h
  | y :: l, S, 0, x, h => by simp at h; subst h; rfl
  | y :: l, S, i + 1, x, h => by
    have := fpsL_get l (app1 S y) i x (by simpa using h)
    simpa [fpsL, stI] using this
theorem trace (r0 : R) (hE : ∀ f acs vin, Uni (E.fn f acs vin)) {s' : St} {fp' : List Fp} : ∀ (l : List Oper) (S : St) (fp : List Fp), (∀ K : St × List Fp → Option R, (execOps X E ops true l S fp fun s f => K (s, f)) = K (s', fp')) →
    ∃ rs : List Rec, rs.map (·.o) = l ∧ TrOk X E ops S rs ∧ s' = rs.foldl app1 S ∧ fp' = fp ++ fpsL ops S rs
  | [], S, fp, h => by
    have := ev_inj r0 h
    simp only [Prod.mk.injEq] at this
    exact ⟨[], rfl, fun i x hx => by simp at hx, this.1.symm, by simp [fpsL, this.2]⟩
  | o :: l, S, fp, h => by
    obtain ⟨oc, hoc⟩ := runOp_uni (X := X) hE ops (S.cut ops o) o
    cases oc with
    | none =>
      exact False.elim <| ev_none r0 (α := St × List Fp) (y := (s', fp')) fun K => by
        have h1 := h K
        have h2 := hoc fun x => execOps X E ops true l ((S.app x.2.2.2).put o.dst (gd x.1 x.2.1 x.2.2.1)) (fp ++ [fpOf ops S o x.2.2.1 x.2.2.2]) fun s f => K (s, f)
        exact h2.symm.trans h1
    | some x =>
      obtain ⟨p, q, v, δ⟩ := x
      have hK2 : ∀ K : St × List Fp → Option R, (execOps X E ops true l (app1 S ⟨o, p, q, v, δ⟩) (fp ++ [fpOf ops S o v δ]) fun s f => K (s, f)) = K (s', fp') := by
        intro K
        have h1 := h K
        have h2 := hoc fun x => execOps X E ops true l ((S.app x.2.2.2).put o.dst (gd x.1 x.2.1 x.2.2.1)) (fp ++ [fpOf ops S o x.2.2.1 x.2.2.2]) fun s f => K (s, f)
        exact h2.symm.trans h1
      obtain ⟨rs, h1, h2, h3, h4⟩ := trace r0 hE l _ _ hK2
      refine ⟨⟨o, p, q, v, δ⟩ :: rs, by simp [h1], fun i x hx K => ?_, by simpa using h3, by simp [fpsL, h4]⟩
      cases i with
      | zero => simp at hx; subst hx; exact hoc K
      | succ i => exact h2 i x (by simpa using hx) K

/-! ### what keeps apart -/
theorem go_get {n : List Nat} {x : Fp} : ∀ {m : List Fp} {i : Nat}, apartAll.go n i m x = true → ∀ (a : Nat) (y : Fp), m[a]? = some y → i + a ∉ n → apart y x = true
  | [], _, _, a, y, h, _ => by simp at h
  | z :: m, i, hg, a, y, h, hn => by
    simp only [apartAll.go, Bool.and_eq_true] at hg
    cases a with
    | zero =>
      simp at h; subst h
      have h1 := hg.1
      rw [hasN_no (by simpa using hn)] at h1
      exact h1
    | succ a => exact go_get hg.2 a y (by simpa using h) (by rw [show i + 1 + a = i + (a + 1) by omega]; exact hn)
theorem apartAll_get {A : List (List Nat)} : ∀ {l done : List Fp}, apartAll A done.length done l = true → ∀ (a b : Nat) (y x : Fp), (done ++ l)[a]? = some y → l[b]? = some x → a < done.length + b → a ∉ getL A (done.length + b) → apart y x = true
  | [], done, _, a, b, y, x, _, hx, _, _ => by simp at hx
  | z :: l, done, h, a, b, y, x, hy, hx, hab, hn => by
    simp only [apartAll, Bool.and_eq_true] at h
    cases b with
    | zero =>
      simp at hx; subst hx
      simp only [Nat.add_zero] at hab hn
      rw [List.getElem?_append_left hab] at hy
      exact go_get h.1 a y hy (by simpa using hn)
    | succ b =>
      have hlen : (done ++ [z]).length = done.length + 1 := by simp
      have h2 := h.2
      rw [← hlen] at h2
      exact apartAll_get h2 a b y x (by simpa using hy) (by simpa using hx) (by rw [hlen]; omega) (by rw [hlen, show done.length + 1 + b = done.length + (b + 1) by omega]; exact hn)

theorem getL_lt {acc : List (List Nat)} {k x : Nat} (h : x ∈ getL acc k) : k < acc.length := by
  simp only [getL, nth_eq] at h
  rcases Nat.lt_or_ge k acc.length with hk | hk
  · exact hk
  · rw [List.getElem?_eq_none hk] at h; simp at h
theorem getL_append {acc b : List (List Nat)} {k : Nat} (h : k < acc.length) : getL (acc ++ b) k = getL acc k := by
  simp only [getL, nth_eq, List.getElem?_append_left h]
theorem mem_addN {x y : Nat} {l : List Nat} : x ∈ addN y l → x = y ∨ x ∈ l := by
  simp only [addN]; split
  · exact .inr
  · exact fun h => List.mem_cons.1 h
theorem mem_addNs {x : Nat} : ∀ {l m : List Nat}, x ∈ addNs l m → x ∈ l ∨ x ∈ m
  | [], m, h => .inr h
  | y :: l, m, h => by
    simp only [addNs] at h
    rcases mem_addN h with rfl | h
    · exact .inl List.mem_cons_self
    · exact (mem_addNs h).imp (List.mem_cons_of_mem _) id
theorem mem_ancF {acc : List (List Nat)} {x : Nat} : ∀ {es : List Nat}, x ∈ ancF acc es → ∃ e ∈ es, x = e ∨ x ∈ getL acc e
  | [], h => by simp [ancF] at h
  | e :: l, h => by
    simp only [ancF] at h
    rcases mem_addN h with rfl | h
    · exact ⟨x, List.mem_cons_self, .inl rfl⟩
    · rcases mem_addNs h with h | h
      · exact ⟨e, List.mem_cons_self, .inr h⟩
      · obtain ⟨e', h1, h2⟩ := mem_ancF h; exact ⟨e', List.mem_cons_of_mem _ h1, h2⟩
theorem ancs_pre : ∀ (l : List Oper) (acc : List (List Nat)), ∃ b, ancs acc l = acc ++ b
  | [], acc => ⟨[], by simp [ancs]⟩
  | o :: l, acc => by
    obtain ⟨b, hb⟩ := ancs_pre l (acc ++ [ancF acc (edgesL o.after.toList)])
    exact ⟨ancF acc (edgesL o.after.toList) :: b, by simp [ancs, hb]⟩
theorem ancs_mem : ∀ {l : List Oper} {acc : List (List Nat)} {k x : Nat} {o : Oper}, l[k]? = some o → x ∈ getL (ancs acc l) (acc.length + k) → ∃ e ∈ edgesL o.after.toList, x = e ∨ x ∈ getL (ancs acc l) e
  | [], _, _, _, _, h, _ => by simp at h
  | z :: l, acc, 0, x, o, h, hx => by
    simp at h; subst h
    obtain ⟨b, hb⟩ := ancs_pre l (acc ++ [ancF acc (edgesL z.after.toList)])
    have hz : getL (ancs acc (z :: l)) acc.length = ancF acc (edgesL z.after.toList) := by
      simp only [ancs, hb, getL, nth_eq]; simp
    rw [Nat.add_zero, hz] at hx
    obtain ⟨e, h1, h2⟩ := mem_ancF hx
    refine ⟨e, h1, h2.imp id fun h3 => ?_⟩
    have : ancs acc (z :: l) = acc ++ ([ancF acc (edgesL z.after.toList)] ++ b) := by simp [ancs, hb]
    rw [this, getL_append (getL_lt h3)]; exact h3
  | z :: l, acc, k + 1, x, o, h, hx => by
    simp only [ancs] at hx ⊢
    exact ancs_mem (acc := acc ++ [ancF acc (edgesL z.after.toList)]) (by simpa using h) (by rw [List.length_append, List.length_singleton, show acc.length + 1 + k = acc.length + (k + 1) by omega]; exact hx)
theorem gdAnc_get {A : List (List Nat)} : ∀ {l : List Oper} {n : Nat}, gdAnc A n l = true → ∀ (i : Nat) (o : Oper), l[i]? = some o → ∀ j w, o.guard = some (j, w) → j ∈ getL A (n + i)
  | [], _, _, i, o, h, _, _, _ => by simp at h
  | z :: l, n, hg, i, o, h, j, w, ho => by
    simp only [gdAnc, Bool.and_eq_true] at hg
    cases i with
    | zero => simp at h; subst h; have h1 := hg.1; rw [ho] at h1; exact hasN_iff.1 h1
    | succ i => have := gdAnc_get hg.2 i o (by simpa using h) j w ho; rwa [show n + 1 + i = n + (i + 1) by omega] at this
theorem edgesL_mem {e : Nat} : ∀ {l : List Edge}, e ∈ edgesL l ↔ ∃ d ∈ l, bindsE d = true ∧ d.on = e
  | [] => by simp [edgesL]
  | d :: l => by
    simp only [edgesL]
    cases h : bindsE d with
    | true => simp only [List.mem_cons, edgesL_mem, exists_eq_or_imp, h, true_and]; exact ⟨fun h => h.imp Eq.symm id, fun h => h.imp Eq.symm id⟩
    | false => simp [edgesL_mem, h]
theorem bindsE_any (d : Edge) : Region.binds .any d = bindsE d := by
  obtain ⟨on, g⟩ := d
  cases g <;> rfl
theorem edgeLt_get : ∀ {l : List Oper} {n : Nat}, edgeLt n l = true → ∀ (i : Nat) (o : Oper), l[i]? = some o → ∀ e ∈ edgesL o.after.toList, e < n + i
  | [], _, _, i, o, h, _, _ => by simp at h
  | z :: l, n, hg, i, o, h, e, he => by
    simp only [edgeLt, Bool.and_eq_true] at hg
    cases i with
    | zero => simp at h; subst h; exact allLt_iff.1 hg.1 e he
    | succ i => have := edgeLt_get hg.2 i o (by simpa using h) e he; omega

/-! ### what apart says -/
structure ApS (a b : Fp) : Prop where
  wt : ∀ t ∈ a.wt, t ∉ b.rt
  d1 : ∀ t, a.d = some t → t ∉ b.rt
  d2 : ∀ t, b.d = some t → t ∉ a.rt
  dd : ∀ t, a.d = some t → b.d ≠ some t
  r1 : ∀ r ∈ a.wr, r ∉ b.rr
  r2 : ∀ r ∈ a.wr, r ∉ b.wr
  r3 : ∀ r ∈ a.rr, r ∉ b.wr
  v1 : ∀ r ∈ a.wv, r ∉ b.rv
  v2 : ∀ r ∈ a.wv, r ∉ b.wv
  v3 : ∀ r ∈ a.rv, r ∉ b.wv
theorem disjO_iff {a : Option Nat} {l : List Nat} (h : disjO a l = true) : ∀ t, a = some t → t ∉ l := by
  intro t ht
  subst ht
  intro hm
  simp only [disjO, hasN_iff.2 hm] at h
  cases h
theorem apart_spec {a b : Fp} (h : apart a b = true) : ApS a b := by
  simp only [apart, Bool.and_eq_true] at h
  obtain ⟨h0, h1, h2, h3, h4, h5, h6, h7, h8, h9⟩ := h
  refine ⟨disjN_iff.1 h0, disjO_iff h1, disjO_iff h2, fun t ha hb => ?_, disjN_iff.1 h4, disjN_iff.1 h5, disjN_iff.1 h6, disjN_iff.1 h7, disjN_iff.1 h8, disjN_iff.1 h9⟩
  rw [ha, hb] at h3
  simp only [Nat.beq_refl] at h3
  cases h3

theorem hitT_no {Rs V : List Nat} : ∀ {l : List (Nat × AV)} {t : Nat} {v : AV}, t ∉ hitT Rs V l → lk l t = some v → Far Rs V v.cvs
  | [], _, _, _, h => by cases h
  | (k, u) :: l, t, v, hn, h => by
    simp only [hitT] at hn
    simp only [lk] at h
    cases hk : Nat.beq k t with
    | true =>
      simp only [hk, Option.some.injEq] at h
      have := nat_beq hk; subst this; subst h
      revert hn; split
      · rename_i h1 h2
        intro _
        exact ⟨fun r hr hm => (by rw [anyN_iff.2 ⟨r, hr, hm⟩] at h1; cases h1), fun r hr hm => (by rw [anyN_iff.2 ⟨r, hr, hm⟩] at h2; cases h2)⟩
      · intro hn; exact absurd List.mem_cons_self hn
    | false =>
      simp only [hk] at h
      refine hitT_no (l := l) ?_ h
      revert hn; split
      · exact id
      · intro hn hm; exact hn (List.mem_cons_of_mem _ hm)
theorem hitV_no {Rs V : List Nat} : ∀ {l : List (Nat × List Cv)} {t : Nat} {v : List Cv}, t ∉ hitV Rs V l → lk l t = some v → Far Rs V v
  | [], _, _, _, h => by cases h
  | (k, u) :: l, t, v, hn, h => by
    simp only [hitV] at hn
    simp only [lk] at h
    cases hk : Nat.beq k t with
    | true =>
      simp only [hk, Option.some.injEq] at h
      have := nat_beq hk; subst this; subst h
      revert hn; split
      · rename_i h1 h2
        intro _
        exact ⟨fun r hr hm => (by rw [anyN_iff.2 ⟨r, hr, hm⟩] at h1; cases h1), fun r hr hm => (by rw [anyN_iff.2 ⟨r, hr, hm⟩] at h2; cases h2)⟩
      · intro hn; exact absurd List.mem_cons_self hn
    | false =>
      simp only [hk] at h
      refine hitV_no (l := l) ?_ h
      revert hn; split
      · exact id
      · intro hn hm; exact hn (List.mem_cons_of_mem _ hm)
theorem quiet_far (h : δ.quiet = true) (l : List Cv) : Far δ.kills δ.kv l := by
  obtain ⟨mv, kr, ke, kn, kv, rs, vs⟩ := δ
  have : mv = [] ∧ kr = [] ∧ ke = [] ∧ kn = [] ∧ kv = [] := by
    revert h; simp only [Dl.quiet]; split <;> simp_all
  obtain ⟨rfl, rfl, rfl, rfl, rfl⟩ := this
  exact ⟨fun r _ hm => by simp [Dl.kills, keys] at hm, fun r _ hm => by simp at hm⟩

/-- one ahead of what x looks at, and apart from it -/
theorem Off.ahead {A B : St} {x y : Rec} (h : ApS (fpOf ops A x.o x.v x.δ) (fpOf ops B y.o y.v y.δ)) :
    Off (rdT ops y.o) (rdV (opAs ops B y.o)) (rdR B (opAs ops B y.o)) A x := by
  have wt : ∀ t ∈ rdT ops y.o, ∀ v, lk A.tm t = some v → Far x.δ.kills x.δ.kv v.cvs := by
    intro t ht v hv
    cases hq : x.δ.quiet with
    | true => exact quiet_far hq _
    | false =>
      refine hitT_no (fun hm => h.wt t ?_ ht) hv
      simp only [fpOf, hq]; exact hm
  have wv : ∀ k ∈ rdV (opAs ops B y.o), ∀ cs, A.lk.v k = some cs → Far x.δ.kills x.δ.kv cs := by
    intro k hk cs hc
    cases hq : x.δ.quiet with
    | true => exact quiet_far hq _
    | false =>
      refine hitV_no (fun hm => h.v1 k ?_ ?_) hc
      · simp only [fpOf, hq, List.mem_append]; exact .inr (.inl hm)
      · simp only [fpOf, List.mem_append]; exact .inl hk
  refine ⟨fun t ht hd => h.d1 t hd ht, wt, fun k hk hm => h.v1 k ?_ ?_, wv, fun k hk hm => h.r1 k ?_ ?_⟩
  · simp only [fpOf, List.mem_append]; exact .inr (.inr hm)
  · simp only [fpOf, List.mem_append]; exact .inl hk
  · simp only [fpOf, List.mem_append]; exact .inr (.inr hm)
  · simp only [fpOf, List.mem_append]; exact .inl hk
theorem opAs_mem {o : Oper} {t : Nat} {v : AV} (ht : t ∈ rdT ops o) (hv : lk S.tm t = some v) : v ∈ opAs ops S o := by
  simp only [opAs, fmap_eq]
  exact List.mem_map.2 ⟨t, ht, by simp only [St.get, hv]⟩
theorem rksA_mem {l : List AV} {v : AV} {r : Nat} (hv : v ∈ l) (hr : r ∈ rksL v.cvs) : r ∈ rksA l := by
  induction l with
  | nil => cases hv
  | cons x l ih => simp only [rksA, List.mem_append]; rcases List.mem_cons.1 hv with rfl | hv; exact .inl hr; exact .inr (ih hv)
theorem vksA_mem {l : List AV} {v : AV} {r : Nat} (hv : v ∈ l) (hr : r ∈ vksL v.cvs) : r ∈ vksA l := by
  induction l with
  | nil => cases hv
  | cons x l ih => simp only [vksA, List.mem_append]; rcases List.mem_cons.1 hv with rfl | hv; exact .inl hr; exact .inr (ih hv)
theorem rowsOf_mem {l : List Nat} {k r : Nat} {cs : List Cv} (hk : k ∈ l) (hc : m.v k = some cs) (hr : r ∈ rksL cs) : r ∈ m.rowsOf l := by
  induction l with
  | nil => cases hk
  | cons x l ih => simp only [Lk.rowsOf, List.mem_append]; rcases List.mem_cons.1 hk with rfl | hk; exact .inl (by rw [hc]; exact hr); exact .inr (ih hk)
theorem varsOf_mem {l : List Nat} {k r : Nat} {cs : List Cv} (hk : k ∈ l) (hc : m.v k = some cs) (hr : r ∈ vksL cs) : r ∈ m.varsOf l := by
  induction l with
  | nil => cases hk
  | cons x l ih => simp only [Lk.varsOf, List.mem_append]; rcases List.mem_cons.1 hk with rfl | hk; exact .inl (by rw [hc]; exact hr); exact .inr (ih hk)
/-- one behind it -/
theorem Off.behind {A B : St} {x y : Rec} (h : ApS (fpOf ops B y.o y.v y.δ) (fpOf ops A x.o x.v x.δ)) :
    Off (rdT ops y.o) (rdV (opAs ops B y.o)) (rdR B (opAs ops B y.o)) B x := by
  have kw : ∀ r ∈ x.δ.kills, r ∈ (fpOf ops A x.o x.v x.δ).wr := fun r hr => by simp only [fpOf, List.mem_append]; exact .inr (.inl hr)
  have vw : ∀ r ∈ x.δ.kv, r ∈ (fpOf ops A x.o x.v x.δ).wv := fun r hr => by simp only [fpOf, List.mem_append]; exact .inl hr
  refine ⟨fun t ht hd => h.d2 t hd ht, fun t ht v hv => ⟨fun r hr hm => h.r3 r ?_ (kw r hm), fun k hk hm => h.v3 k ?_ (vw k hm)⟩, fun k hk hm => h.v3 k ?_ ?_, fun k hk cs hc => ⟨fun r hr hm => h.r3 r ?_ (kw r hm), fun r hr hm => h.v3 r ?_ (vw r hm)⟩, fun k hk hm => h.r3 k ?_ ?_⟩
  · simp only [fpOf, rdR, List.mem_append]; exact .inl (.inl (rksA_mem (opAs_mem ht hv) hr))
  · simp only [fpOf, rdV, List.mem_append]; exact .inl (vksA_mem (opAs_mem ht hv) hk)
  · simp only [fpOf, List.mem_append]; exact .inl hk
  · simp only [fpOf, List.mem_append]; exact .inr (.inr hm)
  · simp only [fpOf, rdR, List.mem_append]; exact .inl (.inr (rowsOf_mem hk hc hr))
  · simp only [fpOf, List.mem_append]; exact .inr (.inl (varsOf_mem hk hc hr))
  · simp only [fpOf, List.mem_append]; exact .inl hk
  · simp only [fpOf, List.mem_append]; exact .inr (.inr hm)
theorem Apt.of {A B : St} {x y : Rec} (h : ApS (fpOf ops A x.o x.v x.δ) (fpOf ops B y.o y.v y.δ)) : Apt x y := by
  have wr : ∀ (A : St) (x : Rec), ∀ r ∈ x.wr, r ∈ (fpOf ops A x.o x.v x.δ).wr := fun A x r hr => hr
  have wv : ∀ (A : St) (x : Rec), ∀ r ∈ x.wv, r ∈ (fpOf ops A x.o x.v x.δ).wv := fun A x r hr => by
    simp only [fpOf, Rec.wv, List.mem_append] at hr ⊢
    exact hr.imp id .inr
  have ro : ∀ (A : St) (x : Rec), ∀ r ∈ x.ro, r ∈ (fpOf ops A x.o x.v x.δ).rr := fun A x r hr => by
    simp only [fpOf, Rec.ro, List.mem_append] at hr ⊢
    exact .inr hr
  have vo : ∀ (A : St) (x : Rec), ∀ r ∈ x.vo, r ∈ (fpOf ops A x.o x.v x.δ).rv := fun A x r hr => by
    simp only [fpOf, Rec.vo, List.mem_append] at hr ⊢
    exact .inr (.inr hr)
  exact ⟨h.dd, fun r hr hm => h.r2 r (wr A x r hr) (wr B y r hm), fun r hr hm => h.v2 r (wv A x r hr) (wv B y r hm), fun r hr hm => h.r1 r (wr A x r hr) (ro B y r hm), fun r hr hm => h.v1 r (wv A x r hr) (vo B y r hm),
    fun r hr hm => h.r3 r (ro A x r hm) (wr B y r hr), fun r hr hm => h.v3 r (vo A x r hm) (wv B y r hr)⟩

/-! ### a region in any order -/
variable {e0 : Lk} {γ0 : Gh} {w0 : World}
def dstsOn (L : Nat → Bool) : Nat → List Oper → List Nat
  | _, [] => []
  | n, o :: l => (bif L n then (match o.dst with | some d => [d] | none => []) else []) ++ dstsOn L (n + 1) l
theorem dstsOn_mem {L : Nat → Bool} {t : Nat} : ∀ {l : List Oper} {n : Nat}, t ∈ dstsOn L n l ↔ ∃ (k : Nat) (o : Oper), l[k]? = some o ∧ L (n + k) = true ∧ o.dst = some t
  | [], n => by simp [dstsOn]
  | o :: l, n => by
    simp only [dstsOn, List.mem_append, dstsOn_mem (l := l)]
    constructor
    · rintro (h | ⟨k, o', h1, h2, h3⟩)
      · cases hL : L n with
        | false => rw [hL] at h; simp at h
        | true =>
          rw [hL] at h
          cases ho : o.dst with
          | none => rw [ho] at h; simp at h
          | some d => rw [ho] at h; simp at h; exact ⟨0, o, rfl, by simpa using hL, by rw [ho, h]⟩
      · exact ⟨k + 1, o', by simpa using h1, by rw [← h2]; congr 1; omega, h3⟩
    · rintro ⟨k, o', h1, h2, h3⟩
      cases k with
      | zero => simp at h1; subst h1; rw [Nat.add_zero] at h2; rw [h2, h3]; exact .inl (by simp)
      | succ k => exact .inr ⟨k, o', by simpa using h1, by rw [← h2]; congr 1; omega, h3⟩

theorem dsts_inj : ∀ {l : List Oper}, (dsts l).Nodup → ∀ (i j : Nat) (a b : Oper) (t : Nat), l[i]? = some a → l[j]? = some b → a.dst = some t → b.dst = some t → i = j
  | [], _, i, _, _, _, _, h, _, _, _ => by simp at h
  | o :: l, hn, i, j, a, b, t, hi, hj, ha, hb => by
    have hn' : (dsts l).Nodup := by
      simp only [dsts] at hn
      cases ho : o.dst with
      | none => rwa [ho] at hn
      | some d => rw [ho] at hn; exact (List.nodup_cons.1 hn).2
    have hno : ∀ {k : Nat} {x : Oper}, o.dst = some t → l[k]? = some x → x.dst = some t → False := by
      intro k x ho hx hxt
      simp only [dsts, ho] at hn
      exact (List.nodup_cons.1 hn).1 (dsts_mem.2 ⟨x, List.mem_of_getElem? hx, hxt⟩)
    cases i with
    | zero =>
      simp at hi; subst hi
      cases j with
      | zero => rfl
      | succ j => exact (hno ha (by simpa using hj) hb).elim
    | succ i =>
      cases j with
      | zero => simp at hj; subst hj; exact (hno hb (by simpa using hi) ha).elim
      | succ j => rw [dsts_inj hn' i j a b t (by simpa using hi) (by simpa using hj) ha hb]

theorem draw_ok (r0 : R) (hX : CtxOk X) (hE : EnvOk X E) {a : Act} {w : World} (hr : RegOk X ops) {s' : St} {fp' : List Fp} (hK : ∀ K : St × List Fp → Option R, (execOps X E ops true ops.toList S [] fun s f => K (s, f)) = K (s', fp'))
    (hel : edgeLt 0 ops.toList = true) (hga : gdAnc (ancs [] ops.toList) 0 ops.toList = true) (hap : apartAll (ancs [] ops.toList) 0 [] fp' = true)
    (hgf : gfree S) (hI : Inv X e0 γ0 w0 S γ a w)
    {Q : Exit → Act → World → Prop} (hQ : ∀ γ' a' w', Inv X e0 γ0 w0 s' γ' a' w' → Q .normal a' w') :
    wpAny X.P .any ops Q ops.size (Array.replicate ops.size false) a w := by
  obtain ⟨rs, hrs, htr, rfl, rfl⟩ := trace r0 hE.uni _ _ _ hK
  have hlen : rs.length = ops.size := by have := congrArg List.length hrs; simpa using this
  have hop : ∀ (i : Nat) (x : Rec), rs[i]? = some x → ops[i]? = some x.o := by
    intro i x hx
    have : (rs.map (·.o))[i]? = some x.o := by rw [List.getElem?_map, hx]; rfl
    rw [hrs] at this; simpa using this
  have hro : ∀ (i : Nat) (o : Oper), ops[i]? = some o → ∃ x, rs[i]? = some x ∧ x.o = o := by
    intro i o ho
    have : (rs.map (·.o))[i]? = some o := by rw [hrs]; simpa using ho
    rw [List.getElem?_map] at this
    cases hx : rs[i]? with
    | none => rw [hx] at this; cases this
    | some x => rw [hx] at this; simp at this; exact ⟨x, rfl, this⟩
  let A := ancs [] ops.toList
  have hfp : ∀ (i j : Nat) (x y : Rec), rs[i]? = some x → rs[j]? = some y → i < j → i ∉ getL A j → ApS (fpOf ops (stI S rs i) x.o x.v x.δ) (fpOf ops (stI S rs j) y.o y.v y.δ) := by
    intro i j x y hx hy hij hn
    have h0 : apartAll A (List.length ([] : List Fp)) [] (fpsL ops S rs) = true := by simpa using hap
    exact apart_spec (apartAll_get h0 i j _ _ (by simpa using fpsL_get rs S i x hx) (fpsL_get rs S j y hy) (by simpa using hij) (by simpa using hn))
  have hA : ∀ (j x : Nat) (o : Oper), ops[j]? = some o → x ∈ getL A j → ∃ e ∈ edgesL o.after.toList, x = e ∨ x ∈ getL A e := by
    intro j x o ho hx
    exact ancs_mem (l := ops.toList) (acc := []) (k := j) (by simpa using ho) (by simpa using hx)
  -- any time
  have main : ∀ (fuel : Nat) (listed : Array Bool) (γ : Gh) (a : Act) (w : World), listed.size = ops.size → ((List.range ops.size).filter fun k => !listed.getD k true).length ≤ fuel →
      (∀ j, listed.getD j true = true → j < ops.size → ∀ x ∈ getL A j, listed.getD x true = true) →
      Inv X e0 γ0 w0 (stD (fun k => listed.getD k true) 0 S rs) γ a w → GInv (dstsOn (fun k => listed.getD k true) 0 ops.toList) (stD (fun k => listed.getD k true) 0 S rs) a →
      wpAny X.P .any ops Q fuel listed a w := by
    intro fuel
    induction fuel with
    | zero =>
      intro listed γ a w hsz hU hC hI hG
      have hall : ∀ k, k < ops.size → listed.getD k true = true := by
        intro k hk
        have hnil : (List.range ops.size).filter (fun k => !listed.getD k true) = [] := List.length_eq_zero_iff.1 (Nat.le_zero.1 hU)
        have := List.filter_eq_nil_iff.1 hnil k (List.mem_range.2 hk)
        simpa using this
      refine ⟨List.eq_nil_iff_forall_not_mem.2 fun j hj => ?_, hQ γ a w ?_⟩
      · obtain ⟨h1, o, ho, _⟩ := mem_ready.1 hj
        rw [hall j (Array.getElem?_eq_some_iff.1 ho).1] at h1; cases h1
      · rw [← stD_all (L := fun k => listed.getD k true) rs 0 S fun k _ hk => hall k (by omega)]; exact hI
    | succ fuel ih =>
      intro listed γ a w hsz hU hC hI hG
      refine ⟨fun hnil => hQ γ a w ?_, fun i hi => ?_⟩
      · have hall : ∀ n, ∀ k, k < n → k < ops.size → listed.getD k true = true := by
          intro n
          induction n with
          | zero => intro k hk; omega
          | succ n ihn =>
            intro k hk hks
            rcases Nat.lt_or_ge k n with h | h
            · exact ihn k h hks
            · have hkn : k = n := by omega
              subst hkn
              cases hl : listed.getD k true with
              | true => rfl
              | false =>
                exfalso
                have : k ∈ Region.ready .any ops listed := by
                  refine mem_ready.2 ⟨hl, ops[k], Array.getElem?_eq_getElem hks, fun e he hb => ?_⟩
                  have hm : e.on ∈ edgesL (ops[k]).after.toList := edgesL_mem.2 ⟨e, by simpa using he, by rw [← bindsE_any]; exact hb, rfl⟩
                  have hlt := edgeLt_get hel k ops[k] (by simp [hks]) e.on hm
                  rw [Nat.zero_add] at hlt
                  have := ihn e.on hlt (by omega)
                  have hsz2 : e.on < listed.size := by omega
                  rw [Array.getD_eq_getD_getElem?, Array.getElem?_eq_getElem hsz2] at this ⊢
                  exact this
                rw [hnil] at this; cases this
        rw [← stD_all (L := fun k => listed.getD k true) rs 0 S fun k _ hk => hall ops.size k (by omega) (by omega)]; exact hI
      · obtain ⟨hun, o, ho, hedge⟩ := mem_ready.1 hi
        have his : i < ops.size := (Array.getElem?_eq_some_iff.1 ho).1
        obtain ⟨x, hx, hxo⟩ := hro i o ho
        subst hxo
        let L : Nat → Bool := fun k => listed.getD k true
        have hLi : L i = false := hun
        -- all ahead of it have come
        have hanc : ∀ y ∈ getL A i, L y = true := by
          intro y hy
          obtain ⟨e, he, hye⟩ := hA i y x.o ho hy
          obtain ⟨d, hd, hb, rfl⟩ := edgesL_mem.1 he
          have hld := hedge d (by simpa using hd) (by rw [bindsE_any]; exact hb)
          have hlt : d.on < i := by have := edgeLt_get hel i x.o (by simpa using ho) d.on he; omega
          have hsz2 : d.on < listed.size := by omega
          have hld2 : listed.getD d.on true = true := by
            rw [Array.getD_eq_getD_getElem?, Array.getElem?_eq_getElem hsz2] at hld ⊢; exact hld
          rcases hye with rfl | hye
          · exact hld2
          · exact hC d.on hld2 (by omega) y hye
        let T := stD L 0 S rs
        let S' := (stI S rs i).cut ops x.o
        have hsplit : rs = rs.take i ++ x :: rs.drop (i + 1) := by
          have hi' : i < rs.length := by omega
          have : rs.drop i = x :: rs.drop (i + 1) := by
            rw [List.drop_eq_getElem_cons hi']
            congr 1
            have := List.getElem?_eq_getElem hi'
            rw [hx] at this; exact (Option.some.inj this).symm
          rw [← this, List.take_append_drop]
        have htk : (rs.take i).length = i := by simp; omega
        -- the state of the text, and this one, are alike where it looks
        have hagr : Agr (rdT ops x.o) (rdV (opAs ops (stI S rs i) x.o)) (rdR (stI S rs i) (opAs ops (stI S rs i) x.o)) (stI S rs i) T := by
          show Agr _ _ _ _ (stD L 0 S rs)
          rw [hsplit, stD_append, htk]
          simp only [Nat.zero_add, stD, hLi, cond_false]
          rw [← hsplit]
          refine agr_suf L _ _ _ _ (agr_pre L (rs.take i) 0 S S ⟨fun _ _ => rfl, fun _ _ => rfl, fun _ _ => rfl⟩ fun k y hk hL => ?_) fun k y hk hL => ?_
          · have hki : k < i := by have := (List.getElem?_eq_some_iff.1 hk).1; omega
            have hk2 : rs[k]? = some y := by rw [List.getElem?_take, if_pos hki] at hk; exact hk
            rw [Nat.zero_add] at hL
            have hn : k ∉ getL A i := fun hm => by have := hanc k hm; rw [hL] at this; cases this
            have := Off.ahead (hfp k i y x hk2 hx hki hn)
            rw [List.take_take, Nat.min_eq_left (Nat.le_of_lt hki)]
            exact this
          · have hk2 : rs[i + 1 + k]? = some y := by rw [List.getElem?_drop] at hk; exact hk
            have hlt : i + 1 + k < ops.size := by have := (List.getElem?_eq_some_iff.1 hk2).1; omega
            have hn : i ∉ getL A (i + 1 + k) := fun hm => by have := hC (i + 1 + k) hL hlt i hm; rw [hun] at this; cases this
            exact Off.behind (hfp i (i + 1 + k) x y hx hk2 (by omega) hn)
        have hm : Le S'.lk T.lk := by
          refine ⟨fun k row hk => ?_, fun k cs hk => ?_⟩
          · have hk : lk (cutL (rdR (stI S rs i) (opAs ops (stI S rs i) x.o)) (stI S rs i).rs) k = some row := hk
            rw [lk_cutL] at hk
            split at hk
            · rename_i hmem; rw [← hagr.r k hmem]; exact hk
            · cases hk
          · have hk : lk (cutL (rdV (opAs ops (stI S rs i) x.o)) (stI S rs i).vs) k = some cs := hk
            rw [lk_cutL] at hk
            split at hk
            · rename_i hmem; rw [← hagr.v k hmem]; exact hk
            · cases hk
        have ht : ∀ t av, lk S'.tm t = some av → lk T.tm t = some av := by
          intro t av hk
          have hk : lk (cutL (rdT ops x.o) (stI S rs i).tm) t = some av := hk
          rw [lk_cutL] at hk
          split at hk
          · rename_i hmem; rw [← hagr.t t hmem]; exact hk
          · cases hk
        have hol : ops.toList[i]? = some x.o := by simpa using ho
        have hdl : ∀ d, x.o.dst = some d → d < X.nt := fun d hd => hr.lt d (dsts_mem.2 ⟨x.o, List.mem_of_getElem? hol, hd⟩)
        have hgd : ∀ j w, x.o.guard = some (j, w) → ∀ oj t, ops[j]? = some oj → oj.dst = some t → t ∈ dstsOn L 0 ops.toList := by
          intro j w hg oj t hj ht
          have hm := gdAnc_get hga i x.o hol j w hg
          rw [Nat.zero_add] at hm
          exact dstsOn_mem.2 ⟨j, oj, by simpa using hj, by rw [Nat.zero_add]; exact hanc j hm, ht⟩
        have hdn : ∀ d, x.o.dst = some d → d ∉ dstsOn L 0 ops.toList := by
          intro d hd hmem
          obtain ⟨k, ok, h1, h2, h3⟩ := dstsOn_mem.1 hmem
          have := dsts_inj hr.nd k i ok x.o d h1 hol h3 hd
          subst this
          rw [Nat.zero_add, hLi] at h2; cases h2
        -- the next one
        let listed' := listed.setIfInBounds i true
        have hget' : ∀ k, listed'.getD k true = (L k || Nat.beq k i) := by
          intro k
          by_cases hki : i = k
          · subst hki
            have : i < listed.size := by omega
            have hb : Nat.beq i i = true := Nat.beq_refl i
            rw [hb, Bool.or_true]
            show (listed.setIfInBounds i true).getD i true = true
            simp [this]
          · have hb : Nat.beq k i = false := by cases h : Nat.beq k i; rfl; exact absurd (nat_beq h).symm hki
            rw [hb, Bool.or_false]
            exact getD_set_ne true hki
        have hEq : Eqv (app1 T x) (stD (fun k => listed'.getD k true) 0 S rs) := by
          have hag : ∀ k, k ≠ i → L k = listed'.getD k true := by
            intro k hk
            have hb : Nat.beq k i = false := by cases h : Nat.beq k i; rfl; exact absurd (nat_beq h) hk
            rw [hget', hb, Bool.or_false]
          have e1 : stD (fun k => listed'.getD k true) 0 S rs = stD L (i + 1) (app1 (stD L 0 S (rs.take i)) x) (rs.drop (i + 1)) := by
            rw [hsplit, stD_append, htk]
            simp only [Nat.zero_add, stD]
            rw [← hsplit, hget' i, Nat.beq_refl, Bool.or_true, cond_true]
            rw [stD_congr (L := fun k => listed'.getD k true) (L' := L) (rs.drop (i + 1)) (i + 1) _ fun k h1 _ => (hag k (by omega)).symm]
            rw [stD_congr (L := fun k => listed'.getD k true) (L' := L) (rs.take i) 0 S fun k _ h2 => (hag k (by rw [htk] at h2; omega)).symm]
          have e2 : T = stD L (i + 1) (stD L 0 S (rs.take i)) (rs.drop (i + 1)) := by
            show stD L 0 S rs = _
            conv => lhs; rw [hsplit]
            rw [stD_append, htk]
            simp only [Nat.zero_add, stD, hLi, cond_false]
          rw [e1, e2]
          refine (stD_last L x (rs.drop (i + 1)) (i + 1) _ fun k y hk hL => ?_).symm
          have hk2 : rs[i + 1 + k]? = some y := by rw [List.getElem?_drop] at hk; exact hk
          have hlt : i + 1 + k < ops.size := by have := (List.getElem?_eq_some_iff.1 hk2).1; omega
          have hn : i ∉ getL A (i + 1 + k) := fun hm => by have := hC (i + 1 + k) hL hlt i hm; rw [hun] at this; cases this
          exact Apt.of (hfp i (i + 1 + k) x y hx hk2 (by omega) hn)
        have hU' : ((List.range ops.size).filter fun k => !listed'.getD k true).length ≤ fuel := by
          have h1 : ((List.range ops.size).filter fun k => !listed'.getD k true) = ((List.range ops.size).filter fun k => !listed.getD k true).filter fun k => !Nat.beq k i := by
            rw [List.filter_filter]
            refine List.filter_congr fun k _ => ?_
            rw [hget']
            show (!(listed.getD k true || Nat.beq k i)) = _
            cases listed.getD k true <;> cases Nat.beq k i <;> rfl
          rw [h1]
          have hmem : i ∈ (List.range ops.size).filter fun k => !listed.getD k true := List.mem_filter.2 ⟨List.mem_range.2 his, by rw [hun]; rfl⟩
          have := List.length_filter_lt_length_iff_exists (l := (List.range ops.size).filter fun k => !listed.getD k true) (p := fun k => !Nat.beq k i) |>.2 ⟨i, hmem, by simp [Nat.beq_refl]⟩
          omega
        have hC' : ∀ j, listed'.getD j true = true → j < ops.size → ∀ y ∈ getL A j, listed'.getD y true = true := by
          intro j hj hjs y hy
          rw [hget'] at hj ⊢
          by_cases hji : j = i
          · subst hji; rw [hanc y hy]; rfl
          · have hb : Nat.beq j i = false := by cases h : Nat.beq j i; rfl; exact absurd (nat_beq h) hji
            rw [hb, Bool.or_false] at hj
            have := hC j hj hjs y hy
            show (listed.getD y true || Nat.beq y i) = true
            rw [this]; rfl
        have hop2 := op_ok r0 hX hE hI.rel hI.top hI.tmp hG hm ht hr.nt hdl hgd (v := x.v) (δ := x.δ) (p := x.p) (q := x.q) (fun K => htr i x hx K) (next := fun _ _ => True) (Q := Q) (fun _ _ _ _ _ => trivial)
        have hgp := hop2.1
        have hfin := (op_ok r0 hX hE hI.rel hI.top hI.tmp hG hm ht hr.nt hdl hgd (v := x.v) (δ := x.δ) (p := x.p) (q := x.q) (fun K => htr i x hx K) (next := wpAny X.P .any ops Q fuel listed') (Q := Q) fun γ' w' u hst hu => by
          refine ih listed' γ' (a.put x.o.dst u) w' (by simp [listed', hsz]) hU' hC' ((hI.step hst hdl hu).eqv hEq) ?_
          refine GInv.eqv ?_ hEq
          refine hG.step (fun t ht => ?_) (fun d hd => ⟨hdn d hd, Nat.lt_of_lt_of_le (hdl d hd) hI.tmp.1⟩) hgp
          obtain ⟨k, ok, h1, h2, h3⟩ := dstsOn_mem.1 ht
          refine dstsOn_mem.2 ⟨k, ok, h1, ?_, h3⟩
          rw [Nat.zero_add] at h2 ⊢
          rw [hget']
          show (listed.getD k true || Nat.beq k i) = true
          rw [h2]; rfl).2
        simp only [wpOp, ho]
        cases hw : Region.wanted x.o (yielded ops a.tmps) with
        | true => rw [hw] at hfin; simp only [if_true] at hfin ⊢; exact .inl hfin
        | false => rw [hw] at hfin; simpa using hfin
  have hL0 : ∀ k, k < ops.size → (Array.replicate ops.size false).getD k true = false := by
    intro k hk; simp [hk]
  have e0' : stD (fun k => (Array.replicate ops.size false).getD k true) 0 S rs = S := stD_none rs 0 S fun k _ hk => hL0 k (by omega)
  refine main ops.size (Array.replicate ops.size false) γ a w (by simp) (Nat.le_trans (List.length_filter_le _ _) (by simp)) (fun j hj hjs => by rw [hL0 j hjs] at hj; cases hj) (by rw [e0']; exact hI) ?_
  rw [e0']
  have hd0 : dstsOn (fun k => (Array.replicate ops.size false).getD k true) 0 ops.toList = [] := by
    refine List.eq_nil_iff_forall_not_mem.2 fun t ht => ?_
    obtain ⟨k, o, h1, h2, _⟩ := dstsOn_mem.1 ht
    have : k < ops.size := by have := (List.getElem?_eq_some_iff.1 h1).1; simpa using this
    rw [Nat.zero_add, hL0 k this] at h2; cases h2
  rw [hd0]
  exact gfree_GInv hgf

end
end Go.Soft
