/-
  SoftY: regions whose order is drawn: states that are alike, operations that keep apart.
-/
import Derived.Test.YtlcebcpciagogaaSoftX
set_option linter.constructorNameAsVariable false
set_option linter.unusedSimpArgs false
set_option linter.unusedVariables false
namespace Go.Soft
open Go
variable {X : Ctx} {m M : Lk} {γ γ' : Gh} {w w' : World} {ρ : Operand → Value} {S T : St} {δ δ' : Dl}

/-! ### what a change does not reach -/
theorem lkZ_none {α : Type} {l : List (Nat × α)} {k : Nat} (h : k ∉ keys l) : lkZ l k = none := by
  induction l with
  | nil => rfl
  | cons p l ih =>
    obtain ⟨j, v⟩ := p
    simp only [keys, List.mem_cons, not_or] at h
    simp only [lkZ, ih h.2]
    rw [if_neg (Ne.symm h.1)]
theorem lkZ_keys {α : Type} {l : List (Nat × α)} {k : Nat} {v : α} (h : lkZ l k = some v) : (k, v) ∈ l := by
  induction l with
  | nil => cases h
  | cons p l ih =>
    obtain ⟨j, u⟩ := p
    simp only [lkZ] at h
    cases hz : lkZ l k with
    | some x => simp only [hz, Option.some.injEq] at h; subst h; exact List.mem_cons_of_mem _ (ih hz)
    | none =>
      simp only [hz] at h
      by_cases hj : j = k
      · rw [if_pos hj] at h; cases h; subst hj; exact List.mem_cons_self
      · rw [if_neg hj] at h; cases h
theorem hasN_no {a : Nat} {l : List Nat} (h : a ∉ l) : hasN a l = false := by
  cases hh : hasN a l with
  | false => rfl
  | true => exact absurd (hasN_iff.1 hh) h
theorem anyN_iff {l m : List Nat} : anyN l m = true ↔ ∃ x ∈ l, x ∈ m := by
  induction l with
  | nil => simp [anyN]
  | cons x l ih =>
    simp only [anyN]
    cases h : hasN x m with
    | true => exact ⟨fun _ => ⟨x, List.mem_cons_self, hasN_iff.1 h⟩, fun _ => rfl⟩
    | false =>
      have : x ∉ m := fun hm => by rw [hasN_iff.2 hm] at h; cases h
      simp only [ih, List.mem_cons, exists_eq_or_imp, this, false_or]
theorem anyN_no {l m : List Nat} (h : ∀ x ∈ l, x ∉ m) : anyN l m = false := by
  cases hh : anyN l m with
  | false => rfl
  | true => obtain ⟨x, h1, h2⟩ := anyN_iff.1 hh; exact absurd h2 (h x h1)

theorem mem_kills {r : Nat} : r ∈ δ.kills ↔ r ∈ keys δ.mv ∨ r ∈ δ.kr ∨ r ∈ δ.ke ∨ r ∈ δ.kn := by simp [Dl.kills]
theorem kills_no {r : Nat} (h : r ∉ δ.kills) : lk δ.mv r = none ∧ hasN r δ.kr = false ∧ hasN r δ.ke = false ∧ hasN r δ.kn = false := by
  rw [mem_kills] at h
  simp only [not_or] at h
  exact ⟨lk_none.2 h.1, hasN_no h.2.1, hasN_no h.2.2.1, hasN_no h.2.2.2⟩
theorem map_miss {x : Cv} (hr : ∀ r ∈ x.rk, r ∉ δ.kills) (hv : ∀ k ∈ x.vk, k ∉ δ.kv) : δ.map x = x := by
  cases x with
  | pv v c => simp only [Dl.map, hasN_no (hv v (by simp [Cv.vk]))]
  | fn f l => simp only [Dl.map, anyN_no (fun k hk => hv k (by simpa [Cv.vk] using hk))]
  | sw r => obtain ⟨a, b, c, d⟩ := kills_no (hr r (by simp [Cv.rk, Cv.row])); simp only [Dl.map, a, b]
  | sl r o n => obtain ⟨a, b, c, d⟩ := kills_no (hr r (by simp [Cv.rk, Cv.row])); simp only [Dl.map, a, b, c]
  | pe r o n => obtain ⟨a, b, c, d⟩ := kills_no (hr r (by simp [Cv.rk, Cv.row])); simp only [Dl.map, a, b, c]
  | nw r _ _ => obtain ⟨a, b, c, d⟩ := kills_no (hr r (by simp [Cv.rk, Cv.row])); simp only [Dl.map, a, b, c, d]
  | ns r _ _ _ _ => obtain ⟨a, b, c, d⟩ := kills_no (hr r (by simp [Cv.rk, Cv.row])); simp only [Dl.map, a, b, c, d]
  | pn r _ _ _ _ => obtain ⟨a, b, c, d⟩ := kills_no (hr r (by simp [Cv.rk, Cv.row])); simp only [Dl.map, a, b, c, d]
  | _ => rfl
theorem mvT_mem {l : List (Nat × (Nat × Nat × Nat))} {r d e c : Nat} (h : lk l r = some (d, e, c)) : d ∈ mvT l := by
  have := lk_mem h
  clear h
  induction l with
  | nil => cases this
  | cons p l ih =>
    obtain ⟨j, d', ec⟩ := p
    rcases List.mem_cons.1 this with h | h
    · simp only [Prod.mk.injEq] at h; obtain ⟨_, rfl, _⟩ := h; exact List.mem_cons_self
    · exact List.mem_cons_of_mem _ (ih h)
theorem map_rk (x : Cv) : (∀ r ∈ (δ.map x).rk, r ∈ x.rk ∨ r ∈ mvT δ.mv) ∧ (∀ k ∈ (δ.map x).vk, k ∈ x.vk) := by
  have un : ∀ y : Cv, (∀ r ∈ Cv.un.rk, r ∈ y.rk ∨ r ∈ mvT δ.mv) ∧ (∀ k ∈ Cv.un.vk, k ∈ y.vk) := fun y => ⟨fun r h => by simp [Cv.rk, Cv.row] at h, fun k h => by simp [Cv.vk] at h⟩
  have me : ∀ y : Cv, (∀ r ∈ y.rk, r ∈ y.rk ∨ r ∈ mvT δ.mv) ∧ (∀ k ∈ y.vk, k ∈ y.vk) := fun y => ⟨fun r h => .inl h, fun k h => h⟩
  cases x with
  | pv v c => simp only [Dl.map]; split <;> first | exact un _ | exact me _
  | fn f l => simp only [Dl.map]; split <;> first | exact un _ | exact me _
  | sw r =>
    simp only [Dl.map]; split
    · rename_i d e c h; exact ⟨fun r hr => .inr (by simp [Cv.rk, Cv.row] at hr; rw [hr]; exact mvT_mem h), fun k hk => by simp [Cv.vk] at hk⟩
    · split <;> first | exact un _ | exact me _
  | sl r o n =>
    simp only [Dl.map]; split
    · rename_i d e c h; exact ⟨fun r hr => .inr (by simp [Cv.rk, Cv.row] at hr; rw [hr]; exact mvT_mem h), fun k hk => by simp [Cv.vk] at hk⟩
    · split <;> first | exact un _ | exact me _
  | pe r o n =>
    simp only [Dl.map]; split
    · rename_i d e c h; exact ⟨fun r hr => .inr (by simp [Cv.rk, Cv.row] at hr; rw [hr]; exact mvT_mem h), fun k hk => by simp [Cv.vk] at hk⟩
    · split <;> first | exact un _ | exact me _
  | nw r _ _ =>
    simp only [Dl.map]; split
    · exact un _
    · split <;> first | exact un _ | exact me _
  | ns r _ _ _ _ =>
    simp only [Dl.map]; split
    · exact un _
    · split <;> first | exact un _ | exact me _
  | pn r _ _ _ _ =>
    simp only [Dl.map]; split
    · exact un _
    · split <;> first | exact un _ | exact me _
  | _ => exact me _

/-- two changes that keep apart come in either order -/
theorem map_comm (h : ∀ r, (r ∈ mvT δ.mv ∨ r ∈ δ.kills) → ¬(r ∈ mvT δ'.mv ∨ r ∈ δ'.kills)) (x : Cv) : δ.map (δ'.map x) = δ'.map (δ.map x) := by
  -- a reference to a row
  have row : ∀ r, x.rk = [r] → x.vk = [] → δ.map (δ'.map x) = δ'.map (δ.map x) := by
    intro r hr hv
    have novk : ∀ (d : Dl) (k : Nat), k ∈ (d.map x).vk → False := fun d k hk => by have := (map_rk (δ := d) x).2 k hk; rw [hv] at this; simp at this
    by_cases h1 : r ∈ δ.kills
    · have h2 : r ∉ δ'.kills := fun hm => h r (.inr h1) (.inr hm)
      have e1 : δ'.map x = x := map_miss (fun y hy => by rw [hr] at hy; simp at hy; rw [hy]; exact h2) (fun k hk => by rw [hv] at hk; simp at hk)
      rw [e1]
      refine (map_miss (fun y hy => ?_) fun k hk => (novk δ k hk).elim).symm
      rcases (map_rk (δ := δ) x).1 y hy with hy | hy
      · rw [hr] at hy; simp at hy; rw [hy]; exact h2
      · exact fun hm => h y (.inl hy) (.inr hm)
    · have e1 : δ.map x = x := map_miss (fun y hy => by rw [hr] at hy; simp at hy; rw [hy]; exact h1) (fun k hk => by rw [hv] at hk; simp at hk)
      rw [e1]
      refine map_miss (fun y hy => ?_) fun k hk => (novk δ' k hk).elim
      rcases (map_rk (δ := δ') x).1 y hy with hy | hy
      · rw [hr] at hy; simp at hy; rw [hy]; exact h1
      · exact fun hm => h y (.inr hm) (.inl hy)
  cases x with
  | pv v c =>
    simp only [Dl.map]
    cases h1 : hasN v δ.kv <;> cases h2 : hasN v δ'.kv <;> simp [Dl.map, h1, h2]
  | fn f l =>
    simp only [Dl.map]
    cases h1 : anyN l δ.kv <;> cases h2 : anyN l δ'.kv <;> simp [Dl.map, h1, h2]
  | sw r => exact row r rfl rfl
  | sl r _ _ => exact row r rfl rfl
  | pe r _ _ => exact row r rfl rfl
  | nw r _ _ => exact row r rfl rfl
  | ns r _ _ _ _ => exact row r rfl rfl
  | pn r _ _ _ _ => exact row r rfl rfl
  | _ => rfl

theorem rksL_mem {l : List Cv} {r : Nat} : r ∈ rksL l ↔ ∃ x ∈ l, r ∈ x.rk := by
  induction l with
  | nil => simp [rksL]
  | cons x l ih => simp [rksL, ih]
theorem vksL_mem {l : List Cv} {r : Nat} : r ∈ vksL l ↔ ∃ x ∈ l, r ∈ x.vk := by
  induction l with
  | nil => simp [vksL]
  | cons x l ih => simp [vksL, ih]
theorem cvsT_mem {l : List (Bool × List Cv)} {x : Cv} : x ∈ cvsT l ↔ ∃ p ∈ l, x ∈ p.2 := by
  induction l with
  | nil => simp [cvsT]
  | cons p l ih => obtain ⟨b, cs⟩ := p; simp [cvsT, ih]
theorem mapL_miss {f : Cv → Cv} {l : List Cv} (h : ∀ x ∈ l, f x = x) : l.map f = l := by
  induction l with
  | nil => rfl
  | cons x l ih => rw [List.map_cons, h x List.mem_cons_self, ih fun y hy => h y (List.mem_cons_of_mem _ hy)]
theorem mapV_miss {f : Cv → Cv} : ∀ {v : AV}, (∀ x ∈ v.cvs, f x = x) → mapV f v = v
  | .c x, h => by simp only [mapV]; rw [h x (by simp [AV.cvs])]
  | .a l, h => by simp only [mapV]; rw [mapL_miss (l := l) h]
  | .t l, h => by
    simp only [mapV]
    congr 1
    have : ∀ p ∈ l, (p.1, p.2.map f) = p := fun p hp => by rw [mapL_miss fun x hx => h x (cvsT_mem.2 ⟨p, hp, hx⟩)]
    clear h
    induction l with
    | nil => rfl
    | cons p l ih => rw [List.map_cons, this p List.mem_cons_self, ih fun y hy => this y (List.mem_cons_of_mem _ hy)]
  | .g p q v, h => by simp only [mapV]; rw [mapV_miss (v := v) h]
theorem mapV_comm {f g : Cv → Cv} (h : ∀ x, f (g x) = g (f x)) : ∀ v : AV, mapV f (mapV g v) = mapV g (mapV f v)
  | .c x => by simp only [mapV, h]
  | .a l => by simp only [mapV, List.map_map]; congr 1; exact List.map_congr_left fun x _ => h x
  | .t l => by
    simp only [mapV, List.map_map]; congr 1
    refine List.map_congr_left fun p _ => ?_
    simp only [Function.comp, List.map_map]; congr 1
    exact List.map_congr_left fun x _ => h x
  | .g p q v => by simp only [mapV]; rw [mapV_comm h v]

/-- cells that a change does not reach -/
structure Far (R V : List Nat) (l : List Cv) : Prop where
  r : ∀ r ∈ rksL l, r ∉ R
  v : ∀ k ∈ vksL l, k ∉ V
theorem Far.cell {l : List Cv} (h : Far δ.kills δ.kv l) : ∀ x ∈ l, δ.map x = x := fun x hx =>
  map_miss (fun r hr => h.r r (rksL_mem.2 ⟨x, hx, hr⟩)) fun k hk => h.v k (vksL_mem.2 ⟨x, hx, hk⟩)
theorem Far.list {l : List Cv} (h : Far δ.kills δ.kv l) : l.map δ.map = l := mapL_miss h.cell
theorem Far.val {v : AV} (h : Far δ.kills δ.kv v.cvs) : mapV δ.map v = v := mapV_miss h.cell

/-! ### states that are alike -/
structure Eqv (S T : St) : Prop where
  t : ∀ t, lk S.tm t = lk T.tm t
  r : ∀ k, S.lk.r k = T.lk.r k
  v : ∀ k, S.lk.v k = T.lk.v k
theorem Eqv.refl (S : St) : Eqv S S := ⟨fun _ => rfl, fun _ => rfl, fun _ => rfl⟩
theorem Eqv.symm (h : Eqv S T) : Eqv T S := ⟨fun t => (h.t t).symm, fun t => (h.r t).symm, fun t => (h.v t).symm⟩
theorem Eqv.trans {U : St} (h : Eqv S T) (h' : Eqv T U) : Eqv S U := ⟨fun t => (h.t t).trans (h'.t t), fun t => (h.r t).trans (h'.r t), fun t => (h.v t).trans (h'.v t)⟩
theorem Eqv.lk (h : Eqv S T) : S.lk = T.lk := by
  have h1 : S.lk.r = T.lk.r := funext h.r
  have h2 : S.lk.v = T.lk.v := funext h.v
  cases hs : S.lk; cases ht : T.lk
  rw [hs, ht] at h1 h2
  simp only at h1 h2
  rw [h1, h2]
theorem Inv.eqv {e0 : Lk} {γ0 : Gh} {w0 : World} {a : Act} (h : Inv X e0 γ0 w0 S γ a w) (he : Eqv S T) : Inv X e0 γ0 w0 T γ a w := by
  have hl := he.lk
  refine ⟨hl ▸ h.rel, h.top, ⟨h.tmp.1, fun t av ht => ?_⟩, h.df, h.fr, by rw [← hl]; exact h.i3, h.i4, h.i2⟩
  rw [← he.t] at ht
  rw [← hl]
  exact h.tmp.2 t av ht
theorem GInv.eqv {D : List Nat} {a : Act} (h : GInv D S a) (he : Eqv S T) : GInv D T a := ⟨fun t p q v ht => h.g t p q v (by rw [he.t]; exact ht)⟩

/-! ### what came of an operation -/
structure Rec where
  o : Oper
  p : List (Nat × Bool)
  q : Bool
  v : AV
  δ : Dl
def app1 (S : St) (x : Rec) : St := (S.app x.δ).put x.o.dst (gd x.p x.q x.v)
theorem app1_t (S : St) (x : Rec) (t : Nat) : lk (app1 S x).tm t = if x.o.dst = some t then some (gd x.p x.q x.v) else (lk S.tm t).map (mapV x.δ.map) := by
  simp only [app1, put_tm, app_t]
theorem app1_r (S : St) (x : Rec) (k : Nat) : (app1 S x).lk.r k = match lkZ x.δ.rs k with | some r => r | none => S.lk.r k := by
  simp only [app1, put_lk, app_r]; cases lkZ x.δ.rs k <;> rfl
theorem app1_v (S : St) (x : Rec) (k : Nat) : (app1 S x).lk.v k = match lkZ x.δ.vs k with | some cs => some cs | none => (S.lk.v k).map (List.map x.δ.map) := by
  simp only [app1, put_lk, app_v]; cases lkZ x.δ.vs k <;> rfl
theorem app1_eqv (h : Eqv S T) (x : Rec) : Eqv (app1 S x) (app1 T x) :=
  ⟨fun t => by rw [app1_t, app1_t, h.t], fun k => by rw [app1_r, app1_r, h.r], fun k => by rw [app1_v, app1_v, h.v]⟩

/-- what a change writes: rows, variables; what an answer names -/
def Rec.wr (x : Rec) : List Nat := mvT x.δ.mv ++ (x.δ.kills ++ keys x.δ.rs)
def Rec.wv (x : Rec) : List Nat := x.δ.kv ++ keys x.δ.vs
def Rec.ro (x : Rec) : List Nat := rksL x.v.cvs ++ rksL (vcs x.δ.vs)
def Rec.vo (x : Rec) : List Nat := vksL x.v.cvs ++ vksL (vcs x.δ.vs)
structure Apt (x y : Rec) : Prop where
  d : ∀ t, x.o.dst = some t → y.o.dst ≠ some t
  w : ∀ r ∈ x.wr, r ∉ y.wr
  v : ∀ k ∈ x.wv, k ∉ y.wv
  xr : ∀ r ∈ x.wr, r ∉ y.ro
  xv : ∀ k ∈ x.wv, k ∉ y.vo
  yr : ∀ r ∈ y.wr, r ∉ x.ro
  yv : ∀ k ∈ y.wv, k ∉ x.vo

theorem gd_cvs (p : List (Nat × Bool)) (q : Bool) (v : AV) : ∀ x ∈ (gd p q v).cvs, x ∈ v.cvs ∨ x = .un := by
  intro x hx
  cases p with
  | nil => cases v <;> simp_all [gd, dropG, AV.cvs]
  | cons y p => exact .inl hx
theorem Rec.far (x y : Rec) (h1 : ∀ r ∈ y.wr, r ∉ x.ro) (h2 : ∀ k ∈ y.wv, k ∉ x.vo) : mapV y.δ.map (gd x.p x.q x.v) = gd x.p x.q x.v ∧ ∀ k cs, lkZ x.δ.vs k = some cs → cs.map y.δ.map = cs := by
  refine ⟨mapV_miss fun c hc => ?_, fun k cs hcs => mapL_miss fun c hc => ?_⟩
  · rcases gd_cvs _ _ _ c hc with hc | rfl
    · exact map_miss (fun r hr hk => h1 r (by simp [Rec.wr, hk]) (by simp only [Rec.ro, List.mem_append]; exact .inl (rksL_mem.2 ⟨c, hc, hr⟩)))
        fun k hk hm => h2 k (by simp [Rec.wv, hm]) (by simp only [Rec.vo, List.mem_append]; exact .inl (vksL_mem.2 ⟨c, hc, hk⟩))
    · rfl
  · have hmem : c ∈ vcs x.δ.vs := by
      have := lkZ_keys hcs
      revert this
      generalize x.δ.vs = l
      induction l with
      | nil => intro h; cases h
      | cons p l ih =>
        obtain ⟨j, l'⟩ := p
        intro h
        simp only [vcs, List.mem_append]
        rcases List.mem_cons.1 h with h | h
        · simp only [Prod.mk.injEq] at h; exact .inl (h.2 ▸ hc)
        · exact .inr (ih h)
    exact map_miss (fun r hr hk => h1 r (by simp [Rec.wr, hk]) (by simp only [Rec.ro, List.mem_append]; exact .inr (rksL_mem.2 ⟨c, hmem, hr⟩)))
        fun k hk hm => h2 k (by simp [Rec.wv, hm]) (by simp only [Rec.vo, List.mem_append]; exact .inr (vksL_mem.2 ⟨c, hmem, hk⟩))

theorem app1_comm (S : St) {x y : Rec} (h : Apt x y) : Eqv (app1 (app1 S x) y) (app1 (app1 S y) x) := by
  obtain ⟨x1, x2⟩ := Rec.far x y h.yr h.yv
  obtain ⟨y1, y2⟩ := Rec.far y x h.xr h.xv
  have hmap : ∀ c, y.δ.map (x.δ.map c) = x.δ.map (y.δ.map c) := fun c => (map_comm (δ := x.δ) (δ' := y.δ) (fun r hr hr' => h.w r (by simp [Rec.wr]; rcases hr with hr | hr <;> simp [hr]) (by simp [Rec.wr]; rcases hr' with hr | hr <;> simp [hr])) c).symm
  refine ⟨fun t => ?_, fun k => ?_, fun k => ?_⟩
  · simp only [app1_t]
    by_cases hx : x.o.dst = some t
    · have hy := h.d t hx
      simp only [hx, hy, if_true, if_false, Option.map_some, x1]
    · by_cases hy : y.o.dst = some t
      · simp only [hx, hy, if_true, if_false, Option.map_some, y1]
      · simp only [hx, hy, if_false, Option.map_map]
        congr 1
        exact funext fun v => mapV_comm hmap v
  · simp only [app1_r]
    cases hx : lkZ x.δ.rs k with
    | none => rfl
    | some r =>
      have : k ∉ keys y.δ.rs := fun hk => h.w k (by simp only [Rec.wr, List.mem_append]; exact .inr (.inr (mem_keys (lkZ_keys hx)))) (by simp only [Rec.wr, List.mem_append]; exact .inr (.inr hk))
      rw [lkZ_none this]
  · simp only [app1_v]
    cases hx : lkZ x.δ.vs k with
    | none =>
      cases hy : lkZ y.δ.vs k with
      | none =>
        simp only [Option.map_map]
        congr 1
        funext l
        simp only [Function.comp, List.map_map]
        exact List.map_congr_left fun c _ => hmap c
      | some cs => simp only [Option.map_some, y2 k cs hy]
    | some cs =>
      have : k ∉ keys y.δ.vs := fun hk => h.v k (by simp only [Rec.wv, List.mem_append]; exact .inr (mem_keys (lkZ_keys hx))) (by simp only [Rec.wv, List.mem_append]; exact .inr hk)
      rw [lkZ_none this]
      simp only [Option.map_some, x2 k cs hx]

/-! ### those that came already -/
/-- the state behind those that L names -/
def stD (L : Nat → Bool) : Nat → St → List Rec → St
  | _, S, [] => S
  | n, S, x :: l => stD L (n + 1) (bif L n then app1 S x else S) l
theorem stD_eqv (L : Nat → Bool) : ∀ (l : List Rec) (n : Nat) {S T : St}, Eqv S T → Eqv (stD L n S l) (stD L n T l)
  | [], _, _, _, h => h
  | x :: l, n, S, T, h => by
    simp only [stD]
    refine stD_eqv L l (n + 1) ?_
    cases L n
    · exact h
    · exact app1_eqv h x
theorem stD_append (L : Nat → Bool) : ∀ (l l' : List Rec) (n : Nat) (S : St), stD L n S (l ++ l') = stD L (n + l.length) (stD L n S l) l'
  | [], _, _, _ => rfl
  | x :: l, l', n, S => by
    simp only [List.cons_append, stD, List.length_cons]
    rw [stD_append L l l' (n + 1), Nat.add_assoc, Nat.add_comm 1]
theorem stD_congr {L L' : Nat → Bool} : ∀ (l : List Rec) (n : Nat) (S : St), (∀ k, n ≤ k → k < n + l.length → L k = L' k) → stD L n S l = stD L' n S l
  | [], _, _, _ => rfl
  | x :: l, n, S, h => by
    simp only [stD]
    rw [h n (Nat.le_refl n) (by simp), stD_congr l (n + 1) _ fun k h1 h2 => h k (by omega) (by simp; omega)]
theorem stD_all {L : Nat → Bool} : ∀ (l : List Rec) (n : Nat) (S : St), (∀ k, n ≤ k → k < n + l.length → L k = true) → stD L n S l = l.foldl app1 S
  | [], _, _, _ => rfl
  | x :: l, n, S, h => by
    simp only [stD, List.foldl_cons]
    rw [h n (Nat.le_refl n) (by simp), stD_all l (n + 1) _ fun k h1 h2 => h k (by omega) (by simp; omega)]
    rfl
theorem stD_none {L : Nat → Bool} : ∀ (l : List Rec) (n : Nat) (S : St), (∀ k, n ≤ k → k < n + l.length → L k = false) → stD L n S l = S
  | [], _, _, _ => rfl
  | x :: l, n, S, h => by
    simp only [stD]
    rw [h n (Nat.le_refl n) (by simp)]
    exact stD_none l (n + 1) _ fun k h1 h2 => h k (by omega) (by simp; omega)
/-- one that keeps apart from those behind it comes last -/
theorem stD_last (L : Nat → Bool) (x : Rec) : ∀ (l : List Rec) (n : Nat) (S : St), (∀ (k : Nat) (y : Rec), l[k]? = some y → L (n + k) = true → Apt x y) → Eqv (stD L n (app1 S x) l) (app1 (stD L n S l) x)
  | [], _, _, _ => Eqv.refl _
  | y :: l, n, S, h => by
    simp only [stD]
    have ih := fun T => stD_last L x l (n + 1) T fun k z hk hL => h (k + 1) z (by simpa using hk) (by rw [← hL]; congr 1; omega)
    cases hL : L n with
    | false => exact ih S
    | true => exact (stD_eqv L l (n + 1) (app1_comm S (h 0 y rfl (by simpa using hL)))).trans (ih _)

/-! ### what an operation looks at -/
structure Agr (KT KV KR : List Nat) (S T : St) : Prop where
  t : ∀ t ∈ KT, lk S.tm t = lk T.tm t
  v : ∀ k ∈ KV, S.lk.v k = T.lk.v k
  r : ∀ k ∈ KR, S.lk.r k = T.lk.r k
variable {KT KV KR : List Nat}
theorem Agr.both (h : Agr KT KV KR S T) (x : Rec) : Agr KT KV KR (app1 S x) (app1 T x) :=
  ⟨fun t ht => by rw [app1_t, app1_t, h.t t ht], fun k hk => by rw [app1_v, app1_v, h.v k hk], fun k hk => by rw [app1_r, app1_r, h.r k hk]⟩
/-- an operation that does not reach it -/
structure Off (KT KV KR : List Nat) (S : St) (x : Rec) : Prop where
  d : ∀ t ∈ KT, x.o.dst ≠ some t
  t : ∀ t ∈ KT, ∀ v, lk S.tm t = some v → Far x.δ.kills x.δ.kv v.cvs
  k : ∀ k ∈ KV, k ∉ keys x.δ.vs
  v : ∀ k ∈ KV, ∀ cs, S.lk.v k = some cs → Far x.δ.kills x.δ.kv cs
  r : ∀ k ∈ KR, k ∉ keys x.δ.rs
theorem Off.agr {x : Rec} (h : Off KT KV KR S x) : Agr KT KV KR (app1 S x) S := by
  refine ⟨fun t ht => ?_, fun k hk => ?_, fun k hk => ?_⟩
  · rw [app1_t, if_neg (h.d t ht)]
    cases hl : lk S.tm t with
    | none => rfl
    | some v => simp only [Option.map_some, (h.t t ht v hl).val]
  · rw [app1_v, lkZ_none (h.k k hk)]
    cases hl : S.lk.v k with
    | none => rfl
    | some cs => simp only [Option.map_some, (h.v k hk cs hl).list]
  · rw [app1_r, lkZ_none (h.r k hk)]
theorem Agr.trans {U : St} (h : Agr KT KV KR S T) (h' : Agr KT KV KR T U) : Agr KT KV KR S U := ⟨fun t ht => (h.t t ht).trans (h'.t t ht), fun t ht => (h.v t ht).trans (h'.v t ht), fun t ht => (h.r t ht).trans (h'.r t ht)⟩
theorem Agr.symm (h : Agr KT KV KR S T) : Agr KT KV KR T S := ⟨fun t ht => (h.t t ht).symm, fun t ht => (h.v t ht).symm, fun t ht => (h.r t ht).symm⟩
theorem Off.congr {x : Rec} (h : Off KT KV KR S x) (ha : Agr KT KV KR S T) : Off KT KV KR T x :=
  ⟨h.d, fun t ht v hv => h.t t ht v (by rw [ha.t t ht]; exact hv), h.k, fun k hk cs hc => h.v k hk cs (by rw [ha.v k hk]; exact hc), h.r⟩

/-- those ahead: all, or those that L names -/
theorem agr_pre (L : Nat → Bool) : ∀ (l : List Rec) (n : Nat) (S T : St), Agr KT KV KR S T → (∀ (k : Nat) (x : Rec), l[k]? = some x → L (n + k) = false → Off KT KV KR ((l.take k).foldl app1 S) x) →
    Agr KT KV KR (l.foldl app1 S) (stD L n T l)
  | [], _, _, _, h, _ => h
  | x :: l, n, S, T, h, ho => by
    simp only [List.foldl_cons, stD]
    refine agr_pre L l (n + 1) (app1 S x) _ ?_ fun k y hk hL => ?_
    · cases hL : L n with
      | true => exact h.both x
      | false => exact ((ho 0 x rfl (by simpa using hL)).agr).trans h
    · have := ho (k + 1) y (by simpa using hk) (by rw [← hL]; congr 1; omega)
      simpa using this
/-- those behind -/
theorem agr_suf (L : Nat → Bool) : ∀ (l : List Rec) (n : Nat) (S T : St), Agr KT KV KR S T → (∀ (k : Nat) (x : Rec), l[k]? = some x → L (n + k) = true → Off KT KV KR S x) → Agr KT KV KR S (stD L n T l)
  | [], _, _, _, h, _ => h
  | x :: l, n, S, T, h, ho => by
    simp only [stD]
    refine agr_suf L l (n + 1) S _ ?_ fun k y hk hL => ho (k + 1) y (by simpa using hk) (by rw [← hL]; congr 1; omega)
    cases hL : L n with
    | true => exact h.trans (((ho 0 x rfl (by simpa using hL)).congr h).agr).symm
    | false => exact h

theorem lk_cutL {α : Type} (ks : List Nat) (l : List (Nat × α)) (k : Nat) : lk (cutL ks l) k = if k ∈ ks then lk l k else none := by
  induction l with
  | nil => simp [cutL, lk]
  | cons p l ih =>
    obtain ⟨j, v⟩ := p
    simp only [cutL]
    cases h : hasN j ks with
    | true =>
      simp only [lk, ih]
      cases hj : Nat.beq j k with
      | true => have := nat_beq hj; subst this; simp [hasN_iff.1 h]
      | false => rfl
    | false =>
      simp only [ih, lk]
      cases hj : Nat.beq j k with
      | true =>
        have := nat_beq hj; subst this
        have : j ∉ ks := fun hm => by rw [hasN_iff.2 hm] at h; cases h
        simp [this]
      | false => rfl

end Go.Soft
