/-
  SoftM: append.
-/
import Derived.Test.YtlcebcpciagogaaSoftL
set_option linter.constructorNameAsVariable false
set_option linter.unusedSimpArgs false
set_option linter.unusedVariables false
namespace Go.Soft
open Go
variable {X : Ctx} {m M : Lk} {γ γ' : Gh} {w w' : World} {ρ : Operand → Value} {S : St} {δ : Dl}

/-- append at a row that is owned: where the row lies then -/
theorem append_run {P : Program} {t ty e : TypeId} {i : TypeInfo} {z : Value} {size bytes : Nat} (ht : P.underlying t = some (.slice e)) (hi : P.info? e = some i) (hz : i.zero = some z)
    (hsize : i.size = size) (hby : i.bytes = bytes) (hzs : z.cells.size = size) (hsz : 0 < size) {v : Value} {n : Nat} {xs : List Value} (hown : w.ownsRow 0 e size v n xs)
    {a : Addr} {k c : Nat} {news : List Value} (hl : news.length = k * size) (hnews : ∀ j u, news[j]? = some u → w.cell? (a.add j) = some u) (h1 : ∀ u ∈ news, u.oneCell' = true)
    (h63 : n + k ≤ maxLen) (hbytes : (n + k) * bytes ≤ 140737488355328) :
    ∃ v' w', (Builtin.append_ #[t, t] ty #[v, .slice (some a) k c]).run P w = .ok v' w' ∧ w'.ownsRow 0 e size v' (n + k) (xs ++ news) ∧ w.grownBy w' v.ownBlock ∧
      ∀ g, v'.ownBlock = some g → v.ownBlock = some g ∨ w.heap.size ≤ g := by
  obtain ⟨v', w', hr, ho, hg, _⟩ := run_append_own (P := P) w 0 t ty e i z size bytes ht hi hz hsize hby hzs hsz v n xs hown a k c news hl hnews h1 h63 hbytes (Nat.zero_le _)
  refine ⟨v', w', hr, ho, hg, fun g hgv => ?_⟩
  rcases hown.2 with ⟨rfl, rfl⟩ | ⟨g1, cap, cur, rfl, _, hg1, hnc, hcm, hcs, htk⟩
  · obtain ⟨v2, w2, hr2, ho2, _, _⟩ := run_append_own (P := P) w w.heap.size t ty e i z size bytes ht hi hz hsize hby hzs hsz _ 0 xs ⟨hown.1, .inl ⟨rfl, rfl⟩⟩ a k c news hl hnews h1 h63 hbytes (Nat.le_refl _)
    rw [hr] at hr2; cases hr2
    exact .inr (ho2.lt g hgv).1
  · by_cases hroom : n + k ≤ cap
    · left
      have hfit : n * i.size + news.length ≤ cur.size := by rw [hsize, hl, hcs, ← Nat.add_mul]; exact Nat.mul_le_mul_right _ hroom
      have hr2 := run_append_room (P := P) w t ty e i ht hi g1 n cap cur hg1 a k c news (by rw [hsize]; exact hl) hnews h1 hroom hfit
      rw [hr] at hr2; cases hr2
      exact hgv
    · right
      have hr2 := run_append_grow (P := P) w t ty e i z ht hi hz ⟨g1, 0, none⟩ n cap xs (by rw [hsize]; exact hown.1) (hown.cells (g := g1) rfl) a k c news (by rw [hsize]; exact hl) hnews (by omega) (by simp only [maxLen] at h63; omega)
        (growslice_fits (by omega) (by rw [hby]; exact hbytes))
      rw [hr] at hr2; cases hr2
      have : w.heap.size = g := by simpa [Value.ownBlock] using hgv
      omega

/-- the owners behind an append: row key has what it had (of kind ow' now) and, from element off on, what row gv had; sh is frozen within -/
structure Ao where
  key : Nat
  ow' : Nat
  off : Nat
  gv : Option Nat
  sh : Option Nat
def Ao.f (a : Ao) : Ow → Option Ow
  | .r k => if some k = a.gv then none else if k = a.key then none else some (.r k)
  | .n k e c => if some k = a.gv then some (dn a.ow' a.key (a.off + e) c) else if some k = a.sh then some .fz else if k = a.key then some (dn a.ow' a.key e c) else some (.n k e c)
  | o => some o
def Ao.R (a : Ao) (r : Nat) : Prop := r = a.key ∨ some r = a.gv ∨ some r = a.sh
def Ao.O (a : Ao) (O : OM) (nb : Option Nat) : OM := fun g => if some g = nb then some (.r a.key) else (O g).bind a.f
theorem Ao.f_out (a : Ao) {o : Ow} (h : ∀ r, a.R r → o ≠ .r r ∧ ∀ e c, o ≠ .n r e c) : a.f o = some o := by
  cases o with
  | r k =>
    have hk : ¬ a.R k := fun hr => (h k hr).1 rfl
    simp only [Ao.R, not_or] at hk
    simp only [Ao.f, if_neg hk.2.1, if_neg hk.1]
  | n k e c =>
    have hk : ¬ a.R k := fun hr => (h k hr).2 e c rfl
    simp only [Ao.R, not_or] at hk
    simp only [Ao.f, if_neg hk.2.1, if_neg hk.2.2, if_neg hk.1]
  | _ => rfl


def apD (key : Nat) (row' : Row) (g : List Nat) (sy : List (Nat × Option Row)) : Dl := { Dl.z with kr := key :: g, rs := sy ++ [(key, some row')] }
theorem apD_rs {key : Nat} {row' : Row} {g : List Nat} {sy : List (Nat × Option Row)} (k : Nat) : lkZ (apD key row' g sy).rs k = if key = k then some (some row') else lkZ sy k := by
  show lkZ (sy ++ [(key, some row')]) k = _
  rw [lkZ_append, lkZ_one]; by_cases h : key = k <;> simp [h]

theorem ap_gen (hR : Rel X S.lk γ w) (htop : ∀ g, w.heap.size ≤ g → γ.O g = none) {a : Ao} {row' : Row} {v v' : Value} {cs' : List Value} {nb : Option Nat} {g : List Nat} {sy : List (Nat × Option Row)}
    (hg : ∀ k, k ∈ g ↔ some k = a.gv) (hsy : ∀ k, lkZ sy k = if some k = a.gv then some none else if some k = a.sh then (S.lk.r k).map (fun row => some { row with ow := 4 }) else none)
    (hgk : a.gv ≠ some a.key) (hsk : a.sh ≠ some a.key) (hgs : ∀ k, some k = a.gv → some k ≠ a.sh) (hshr : ∀ k, some k = a.sh → ∃ row, S.lk.r k = some row ∧ row.ow = 5)
    (hgr : w.grownBy w' v.ownBlock) (hvb : ∀ g, v.ownBlock = some g → γ.O g = some (.r a.key)) (hn : ∀ g, some g = nb → g < w'.heap.size ∧ (γ.O g = some (.r a.key) ∨ w.heap.size ≤ g))
    (hrow : RowR X (a.O γ.O nb) w' a.key row' v' cs') (hon : ownK row'.ow = true) (hkey : ¬ (200000 ≤ a.key ∧ a.key < 300000)) :
    let γ' : Gh := { γ with O := a.O γ.O nb, rv := updN γ.rv a.key v', cv := updN γ.cv a.key cs' }
    Step X S γ w (apD a.key row' g sy) γ' w' ∧ RelC (S.app (apD a.key row' g sy)).lk γ' (.sw a.key) v' := by
  intro γ'
  have hO : ∀ g o, γ.O g = some o → (∀ k, o ≠ .r k ∨ k ≠ a.key) → a.O γ.O nb g = a.f o := by
    intro g o ho hk
    have hgn : ¬ some g = nb := fun h => by
      rcases (hn g h).2 with h1 | h1
      · rw [ho] at h1; cases h1; rcases hk a.key with h | h <;> exact absurd rfl h
      · have := htop g h1; rw [this] at ho; cases ho
    simp only [Ao.O, if_neg hgn, ho]; rfl
  have hheap : ∀ g, g < w.heap.size → γ.O g ≠ some (.r a.key) → w'.heap[g]? = w.heap[g]? := fun g hg ho => hgr.block g hg (fun e => ho (hvb g e.symm))
  have hchg : Chg a.R γ w γ' w' := by
    refine ⟨hgr.os, hgr.tape, hgr.output, hgr.size, fun g hg hk => ⟨hheap g hg (hk a.key (.inl rfl)).1, ?_⟩, fun g hg => ?_, rfl, fun r hr => ?_⟩
    · show a.O γ.O nb g = γ.O g
      cases ho : γ.O g with
      | none =>
        have hgn : ¬ some g = nb := fun h => by
          rcases (hn g h).2 with h1 | h1
          · rw [ho] at h1; cases h1
          · omega
        simp only [Ao.O, if_neg hgn, ho]; rfl
      | some o =>
        rw [ho] at hk
        rw [hO g o ho (fun k => by
          by_cases hkk : k = a.key
          · left; rintro rfl; exact (hk a.key (.inl rfl)).1 (by rw [hkk])
          · exact .inr hkk)]
        exact a.f_out fun r hr => ⟨fun e => (hk r hr).1 (congrArg some e), fun e c e' => (hk r hr).2 e c (congrArg some e')⟩
    · show a.O γ.O nb g = none
      have hgn : ¬ some g = nb := fun h => by have := (hn g h).1; omega
      simp only [Ao.O, if_neg hgn, htop g (Nat.le_trans hgr.size hg)]; rfl
    · have : r ≠ a.key := fun e => hr (.inl e)
      simp [γ', updN, this]
  have hnew : (S.app (apD a.key row' g sy)).lk.r a.key = some row' := by rw [app_r, apD_rs]; simp
  have hrk : ∀ k rk, hasN k (apD a.key row' g sy).kr = false → S.lk.r k = some rk → k ≠ a.key ∧
      ∃ rk', (S.app (apD a.key row' g sy)).lk.r k = some rk' ∧ rk'.τ = rk.τ ∧ rk'.xs.length = rk.xs.length ∧ ∀ e, rk'.cs e = rk.cs e := by
    intro k rk hk hrk
    have hk : ¬ k ∈ a.key :: g := fun h => by rw [← hasN_iff] at h; have hk : hasN k (a.key :: g) = false := hk; rw [h] at hk; cases hk
    simp only [List.mem_cons, not_or] at hk
    refine ⟨hk.1, ?_⟩
    rw [app_r, apD_rs, if_neg (Ne.symm hk.1), hsy, if_neg (fun e => hk.2 ((hg k).2 e))]
    by_cases hs : some k = a.sh
    · rw [if_pos hs, hrk]; exact ⟨_, rfl, rfl, rfl, fun _ => rfl⟩
    · rw [if_neg hs]; exact ⟨rk, hrk, rfl, rfl, fun _ => rfl⟩
  refine ⟨rows_step hR rfl hchg ?_ ?_ ?_ (fun k rk h h1 => by
    rw [apD_rs] at h
    by_cases hkr : a.key = k
    · rw [if_pos hkr] at h; cases h; exact absurd h1 (own_ne1 hon)
    · rw [if_neg hkr, hsy] at h
      by_cases hgv : some k = a.gv
      · rw [if_pos hgv] at h; cases h
      · rw [if_neg hgv] at h
        by_cases hs : some k = a.sh
        · rw [if_pos hs] at h
          obtain ⟨row2, h2, h5⟩ := hshr k hs
          rw [h2] at h; simp only [Option.map_some, Option.some.injEq] at h; subst h
          cases h1
        · rw [if_neg hs] at h; cases h) (fun k h1 h2 => by simp [γ', updN, show k ≠ a.key by omega]), ⟨row', hnew⟩, by simp [γ', updN]⟩
  · refine keep_of hR rfl (fun k rk hk hkr => ?_) (fun k rk rk' hk hkr _ h => ?_) (fun k hkr _ _ => ⟨fun rk rk' hk h => ?_⟩) (fun k c hk _ => ⟨?_, rfl⟩)
    · obtain ⟨hne, rk', h1, _⟩ := hrk k rk hkr hk
      exact ⟨⟨rk', h1⟩, by simp [γ', updN, hne]⟩
    · obtain ⟨hne, rk2, h1, h2, h3, _⟩ := hrk k rk hkr hk
      rw [h] at h1; cases h1
      exact ⟨h2, by omega⟩
    · obtain ⟨hne, rk2, h1, h2, h3, h4⟩ := hrk k rk hkr hk
      rw [h] at h1; cases h1
      intro e c τ ys _ hc
      exact ⟨⟨ys, by rw [h4]; exact hc, Nat.le_refl _⟩, by simp [γ', updN, hne]⟩
    · rw [app_v]; exact ⟨_, by simp [apD, Dl.z, lkZ, hk]; rfl⟩
  · intro k rk h
    rw [apD_rs] at h
    by_cases hkr : a.key = k
    · subst hkr
      rw [if_pos rfl] at h; cases h
      simpa [γ', updN] using hrow
    · rw [if_neg hkr, hsy] at h
      by_cases hgv : some k = a.gv
      · rw [if_pos hgv] at h; cases h
      · rw [if_neg hgv] at h
        by_cases hs : some k = a.sh
        · rw [if_pos hs] at h
          obtain ⟨row2, h2, h5⟩ := hshr k hs
          rw [h2] at h; simp only [Option.map_some, Option.some.injEq] at h; subst h
          have hr2 := hR.rs k row2 h2
          have := hr2.re (O' := a.O γ.O nb) (w' := w') (k' := k) (ow' := 4) (by rw [h5]; rfl) (fun g o hg' hi => by
              rw [h5] at hi
              have hi : γ.O g = some (.r k) := hi
              refine ⟨(hheap g (lt_of_some hg') (by rw [hi]; simp; exact Ne.symm hkr)).trans hg', ?_⟩
              rw [hO g _ hi (fun j => by
                by_cases hj : j = a.key
                · left; rw [hj]; simp; exact Ne.symm hkr
                · exact .inr hj)]
              simp only [Ao.f, if_neg hgv, if_neg (Ne.symm hkr)]; rfl)
            (fun e c g o hg' hi => by
              rw [h5] at hi
              have hi : γ.O g = some (.n k e c) := hi
              refine ⟨(hheap g (lt_of_some hg') (by rw [hi]; simp)).trans hg', ?_⟩
              rw [hO g _ hi (fun j => .inl (by simp))]
              simp only [Ao.f, if_neg hgv, if_pos hs]; rfl)
          simpa [γ', updN, Ne.symm hkr] using this
        · rw [if_neg hs] at h; cases h
  · intro k rk h hk hRk
    rw [apD_rs] at h
    by_cases hkr : a.key = k
    · rw [if_pos hkr] at h; cases h
    · rw [if_neg hkr, hsy] at h
      rcases hRk with h1 | h1 | h1
      · exact hkr h1.symm
      · rw [if_pos h1] at h; cases h
      · rw [if_neg (fun e => hgs k e h1), if_pos h1] at h
        obtain ⟨row2, h2, _⟩ := hshr k h1
        rw [h2] at h; simp at h

/-! ### the elements that are put behind -/
theorem cellV_one {A : Nat → Prop} {ct : Ct} {v : Value} (h : CellV A w ct v) : v.oneCell' = true := by
  cases ct with
  | u => exact h.elim
  | l τ ys => exact h.2.slcV.one
  | _ => have h : v = _ := h; subst h; rfl
theorem vis_one {A : Nat → Prop} {τ : Ty} {xs : List (El τ)} {v : Value} {cs : List Value} (h : Vis A w τ xs v cs) : ∀ u ∈ cs, u.oneCell' = true := by
  intro u hu
  obtain ⟨i, hi, rfl⟩ := List.getElem_of_mem hu
  have hz := sz_pos τ
  have hi' : i < xs.length * sz τ := by rw [← h.top.1]; exact hi
  have he : i / sz τ < xs.length := Nat.div_lt_of_lt_mul (by rwa [Nat.mul_comm])
  have hc : i % sz τ < sz τ := Nat.mod_lt _ hz
  have hie : i / sz τ * sz τ + i % sz τ = i := by rw [Nat.mul_comm]; exact Nat.div_add_mod i (sz τ)
  have hcc : (cells τ (xs.getD (i / sz τ) (dflt τ)))[i % sz τ]? = some ((cells τ (xs.getD (i / sz τ) (dflt τ)))[i % sz τ]'(by rw [cells_length]; exact hc)) := List.getElem?_eq_getElem _
  obtain ⟨u, hu', hr⟩ := h.cel _ _ _ he hcc
  rw [hie, List.getElem?_eq_getElem hi] at hu'
  cases hu'
  exact cellV_one hr

theorem slF_uniq {A B : Nat → Prop} {z : Nat} {v : Value} {n : Nat} {cs cs' : List Value} (h : SlF A w z v n cs) (h' : SlF B w z v n cs') : cs = cs' := by
  have l1 := h.1
  have l2 := h'.1
  rcases h.2 with ⟨_, h0⟩ | ⟨g, o, cap, cur, e, fz, hv, hg, _, _, _, ht⟩
  · subst h0
    rw [Nat.zero_mul] at l1 l2
    rw [List.length_eq_zero_iff.1 l1, List.length_eq_zero_iff.1 l2]
  · rcases h'.2 with ⟨_, h0⟩ | ⟨g', o', cap', cur', e', fz', hv', hg', _, _, _, ht'⟩
    · subst h0
      rw [Nat.zero_mul] at l1 l2
      rw [List.length_eq_zero_iff.1 l1, List.length_eq_zero_iff.1 l2]
    · rw [hv] at hv'
      obtain ⟨rfl, rfl⟩ : g = g' ∧ o = o' := by
        injection hv' with h1 _ _; injection h1 with h1; injection h1 with h1 h2 _; exact ⟨h1, h2⟩
      rw [hg] at hg'; cases hg'
      rw [← ht, ← ht']

/-- what is seen of a slice of elements that have slices: a row, or a part of one -/
theorem deep_cells (hm : Le m M) (hR : Rel X M γ w) {y : Cv} {v : Value} (hy : RelC M γ y v) {τ : Ty} {ys : List (El τ)} (hd : τ.deep = true) (h : (m.vw y).ct = some (.l τ ys)) {cs : List Value} {A : Nat → Prop}
    (hv : Vis A w τ ys v cs) : ys = [] ∨ ∃ r row off, y.row = some r ∧ m.r r = some row ∧ row.τ = τ ∧ ((y = .sw r ∧ off = 0) ∨ ∃ n, y = .sl r off n) ∧
      ∀ e c ct, e < ys.length → (cells τ (ys.getD e (dflt τ)))[c]? = some ct → ∃ u, cs[e * sz τ + c]? = some u ∧ CellR X γ.O w (nesC r (off + e) c row.ow) ct u := by
  cases y with
  | nl σ =>
    simp only [Lk.vw, Vw.ct, Option.some.injEq, Ct.l.injEq] at h
    obtain ⟨rfl, h⟩ := h; cases h; exact .inl rfl
  | sw r =>
    simp only [Lk.vw] at h
    cases hr : m.r r with
    | none => simp [hr, Vw.ct] at h
    | some row =>
      simp only [hr, Vw.ct, Option.some.injEq, Ct.l.injEq] at h
      obtain ⟨rfl, h⟩ := h; cases h
      obtain ⟨_, rfl⟩ := hy
      have hrow := hR.rs r row (hm.r r row hr)
      have hcs := slF_uniq hv.top hrow.top.slF
      subst hcs
      refine .inr ⟨r, row, 0, rfl, hr, rfl, .inl ⟨rfl, rfl⟩, fun e c ct he hc => ?_⟩
      rw [Nat.zero_add]; exact hrow.cel e c ct he hc
  | sl r off len =>
    simp only [Lk.vw] at h
    cases hr : m.r r with
    | none => simp [hr, Vw.ct] at h
    | some row =>
      simp only [hr, Vw.ct, Option.some.injEq, Ct.l.injEq] at h
      obtain ⟨rfl, h⟩ := h; cases h
      obtain ⟨row', hr', hle, hs⟩ := hy
      rw [hm.r r row hr] at hr'; cases hr'
      have hrow := hR.rs r row (hm.r r row hr)
      have hl := sub_length row.xs hle
      have hsub := hrow.top.slF.sub hle hs
      have ht := hv.top
      rw [hl] at ht
      have hcs := slF_uniq ht hsub
      subst hcs
      refine .inr ⟨r, row, off, rfl, hr, rfl, .inr ⟨len, rfl⟩, fun e c ct he hc => ?_⟩
      rw [hl] at he
      rw [sub_getD row.xs _ he] at hc
      obtain ⟨u, hu, hcr⟩ := hrow.cel (off + e) c ct (by omega) hc
      refine ⟨u, ?_, hcr⟩
      have hc' : c < sz row.τ := by
        have := (List.getElem?_eq_some_iff.1 hc).1
        rwa [cells_length] at this
      have : e * sz row.τ + c < len * sz row.τ := by
        have := Nat.mul_le_mul_right (sz row.τ) (show e + 1 ≤ len from he)
        rw [Nat.add_mul] at this; omega
      rw [List.getElem?_take, if_pos this, List.getElem?_drop, ← hu]
      congr 1; rw [Nat.add_mul]; omega
  | nw r e c =>
    simp only [Lk.vw, nth_eq] at h
    cases hr : m.r r with
    | none => simp [hr, Vw.ct] at h
    | some row =>
      cases hc : (row.cs e)[c]? with
      | none => simp [hr, hc, Vw.ct] at h
      | some ct =>
        cases ct with
        | l σ zs =>
          simp only [hr, hc, Vw.ct, Option.some.injEq, Ct.l.injEq] at h
          obtain ⟨rfl, h⟩ := h
          have := cells_deep _ σ zs (List.mem_of_getElem? hc)
          rw [hd] at this; cases this
        | _ => simp [hr, hc, Vw.ct] at h
  | ns r e c off len =>
    simp only [Lk.vw, nth_eq] at h
    cases hr : m.r r with
    | none => simp [hr, Vw.ct] at h
    | some row =>
      cases hc : (row.cs e)[c]? with
      | none => simp [hr, hc, Vw.ct] at h
      | some ct =>
        cases ct with
        | l σ zs =>
          simp only [hr, hc, Vw.ct, Option.some.injEq, Ct.l.injEq] at h
          obtain ⟨rfl, h⟩ := h
          have := cells_deep _ σ zs (List.mem_of_getElem? hc)
          rw [hd] at this; cases this
        | _ => simp [hr, hc, Vw.ct] at h
  | _ => simp [Lk.vw, Vw.ct] at h

/-- the elements of a row behind an append -/
theorem ap_row {a : Ao} {nb : Option Nat} {τ : Ty} {xs ys : List (El τ)} {ow : Nat} {v v' : Value} {cs news : List Value} (hrow : RowR X γ.O w a.key ⟨τ, xs, ow⟩ v cs) (hoff : a.off = xs.length)
    (hown : w'.ownsRow 0 (X.id τ) (sz τ) v' (xs.length + ys.length) (cs ++ news)) (how : a.ow' = 2 ∨ a.ow' = 4 ∨ a.ow' = 5) (hle : leK a.ow' ow = true) (hon : ownK ow = true) (hgk : a.gv ≠ some a.key) (hsk : a.sh ≠ some a.key)
    (hnb : ∀ g, v'.ownBlock = some g → some g = nb) (hheap : ∀ g o, w.heap[g]? = some o → γ.O g ≠ some (.r a.key) → w'.heap[g]? = some o)
    (hnew : ∀ e c ct, e < ys.length → (cells τ (ys.getD e (dflt τ)))[c]? = some ct → ∃ u, news[e * sz τ + c]? = some u ∧ CellR X (a.O γ.O nb) w' (nesC a.key (xs.length + e) c a.ow') ct u)
    (hnb0 : ∀ g o, w.heap[g]? = some o → some g = nb → γ.O g = some (.r a.key)) :
    RowR X (a.O γ.O nb) w' a.key ⟨τ, xs ++ ys, a.ow'⟩ v' (cs ++ news) := by
  have hown' : topC a.key a.ow' = .own (.r a.key) := by
    have : ownK a.ow' = true := by rcases how with h | h | h <;> rw [h] <;> rfl
    simp [topC, this]
  refine ⟨?_, fun e c ct he hc => ?_⟩
  · show Sl X _ _ (topC a.key a.ow') τ v' (xs ++ ys).length _
    rw [hown', List.length_append]
    exact ⟨hown, fun g hg => by simp only [Ao.O, if_pos (hnb g hg)]⟩
  · have hc' : c < sz τ := by
      have := (List.getElem?_eq_some_iff.1 hc).1
      rwa [row_cs, cells_length] at this
    have hl : cs.length = xs.length * sz τ := hrow.top.slF.1
    by_cases hex : e < xs.length
    · have hc2 : (cells τ (xs.getD e (dflt τ)))[c]? = some ct := by
        rw [row_cs] at hc
        have : (xs ++ ys).getD e (dflt τ) = xs.getD e (dflt τ) := by simp [List.getD, List.getElem?_append_left hex]
        rwa [this] at hc
      obtain ⟨u, hu, hr⟩ := hrow.cel e c ct hex hc2
      have h1 : e * sz τ + c < cs.length := by
        have := Nat.mul_le_mul_right (sz τ) (show e + 1 ≤ xs.length from hex)
        rw [Nat.add_mul] at this; omega
      refine ⟨u, by rw [List.getElem?_append_left h1]; exact hu, hr.re (fun g o hg hi => ?_) (leK_nes hle _ _ _ _)⟩
      have hne := nes_ne (k := a.key) hi
      refine ⟨hheap g o hg hne, ?_⟩
      have hgn : ¬ some g = nb := fun h => hne (hnb0 g o hg h)
      have hO : (a.O γ.O nb) g = (γ.O g).bind a.f := by simp only [Ao.O, if_neg hgn]
      rw [hO]
      have hgk' : ¬ some a.key = a.gv := fun h => hgk h.symm
      have hsk' : ¬ some a.key = a.sh := fun h => hsk h.symm
      have fz : γ.O g = some .fz → (γ.O g).bind a.f = some .fz := fun h => by rw [h]; rfl
      have no : γ.O g = none → (γ.O g).bind a.f = none := fun h => by rw [h]; rfl
      have nn : γ.O g = some (.n a.key e c) → (γ.O g).bind a.f = some (dn a.ow' a.key e c) := fun h => by
        rw [h]; show a.f (.n a.key e c) = _; simp only [Ao.f, if_neg hgk', if_neg hsk', if_true]
      rcases ownK_cases hon with rfl | rfl | rfl
      · have h2 : a.ow' = 2 := by rcases how with h | h | h <;> rw [h] at hle ⊢ <;> first | rfl | (simp [leK] at hle)
        rw [h2]
        have hi : γ.O g = none ∨ γ.O g = some .fz := hi
        show (γ.O g).bind a.f = none ∨ (γ.O g).bind a.f = some Ow.fz
        rcases hi with hi | hi
        · rw [no hi]; exact .inl rfl
        · rw [fz hi]; exact .inr rfl
      · have hi : γ.O g = some .fz := hi
        rw [fz hi]
        rcases how with h | h | h <;> rw [h] at hle ⊢
        · exact .inr rfl
        · exact rfl
        · simp [leK] at hle
      · have hi : γ.O g = some (.n a.key e c) := hi
        rw [nn hi]
        exact dn_in how
    · obtain ⟨d, rfl⟩ : ∃ d, e = xs.length + d := ⟨e - xs.length, by omega⟩
      have hd : d < ys.length := by simp at he; omega
      have hc2 : (cells τ (ys.getD d (dflt τ)))[c]? = some ct := by
        rw [row_cs] at hc
        have : (xs ++ ys).getD (xs.length + d) (dflt τ) = ys.getD d (dflt τ) := by simp [List.getD, List.getElem?_append_right]
        rwa [this] at hc
      obtain ⟨u, hu, hr⟩ := hnew d c ct hd hc2
      refine ⟨u, ?_, hr⟩
      show (cs ++ news)[(xs.length + d) * sz τ + c]? = some u
      rw [List.getElem?_append_right (by rw [hl, Nat.add_mul]; omega), hl, ← hu]
      congr 1; rw [Nat.add_mul]; omega


theorem some_ne {a b : Nat} (h : ¬ some a = some b) : a ≠ b := fun e => h (by rw [e])

/-- what is asked of what is put behind a row -/
def ApOk (X : Ctx) (S : St) (γ : Gh) (w : World) (y : Cv) (τ : Ty) (ys : List (El τ)) (cs : List Value) (p : Ap) : Prop :=
    ∃ gv sh : Option Nat, (∀ k, k ∈ p.gone ↔ some k = gv) ∧
      (∀ k, lkZ p.rs k = if some k = gv then some none else if some k = sh then (S.lk.r k).map (fun row => some { row with ow := 4 }) else none) ∧
      (∀ k, some k = gv → y.row = some k) ∧ (∀ k, some k = sh → y.row = some k ∧ ∃ row, S.lk.r k = some row ∧ row.ow = 5) ∧ (∀ k, some k = gv → some k ≠ sh) ∧
      (p.lv = 2 ∨ p.lv = 4 ∨ p.lv = 5) ∧
      ∀ (key off ow' : Nat) (nb : Option Nat) (w' : World), (ow' = 2 ∨ ow' = 4 ∨ ow' = 5) → ow' ≤ p.lv → y.row ≠ some key →
        (∀ g o, w.heap[g]? = some o → γ.O g ≠ some (.r key) → w'.heap[g]? = some o) → (∀ g o, w.heap[g]? = some o → some g = nb → γ.O g = some (.r key)) →
        ∀ e c ct, e < ys.length → (cells τ (ys.getD e (dflt τ)))[c]? = some ct → ∃ u, cs[e * sz τ + c]? = some u ∧ CellR X ((⟨key, ow', off, gv, sh⟩ : Ao).O γ.O nb) w' (nesC key (off + e) c ow') ct u

theorem apOf_ok (hm : Le m S.lk) (hR : Rel X S.lk γ w) {y : Cv} {v : Value} (hy : RelC S.lk γ y v) {τ : Ty} {ys : List (El τ)} (h : (m.vw y).ct = some (.l τ ys)) {cs : List Value} {A : Nat → Prop} (hv : Vis A w τ ys v cs) :
    ApOk X S γ w y τ ys cs (m.apOf τ y) := by
  -- nothing is handed over
  have plain : ∀ lv, m.apOf τ y = ⟨[], [], lv⟩ → (lv = 2 ∨ lv = 4 ∨ lv = 5) →
      (∀ (key off ow' : Nat) (nb : Option Nat) (w' : World), (ow' = 2 ∨ ow' = 4 ∨ ow' = 5) → ow' ≤ lv → y.row ≠ some key →
        (∀ g o, w.heap[g]? = some o → γ.O g ≠ some (.r key) → w'.heap[g]? = some o) → (∀ g o, w.heap[g]? = some o → some g = nb → γ.O g = some (.r key)) →
        ∀ e c ct, e < ys.length → (cells τ (ys.getD e (dflt τ)))[c]? = some ct → ∃ u, cs[e * sz τ + c]? = some u ∧ CellR X ((⟨key, ow', off, none, none⟩ : Ao).O γ.O nb) w' (nesC key (off + e) c ow') ct u) → ApOk X S γ w y τ ys cs (m.apOf τ y) := by
    intro lv hap hlv hc
    rw [hap]
    exact ⟨none, none, fun k => (by simp), fun k => (by simp [lkZ]), fun k hk => (by cases hk), fun k hk => (by cases hk), fun k hk => (by cases hk), hlv, hc⟩
  -- a cell of what came from row r
  have cell : ∀ {key off ow' : Nat} {gv sh nb : Option Nat} {w' : World} {r e1 e c : Nat} {row : Row} {ct : Ct} {u : Value}, (∀ g o, w.heap[g]? = some o → γ.O g ≠ some (.r key) → w'.heap[g]? = some o) →
      (∀ g o, w.heap[g]? = some o → some g = nb → γ.O g = some (.r key)) → (ow' = 5 → row.ow = 5) →
      (∀ g, In (nesC r e1 c row.ow) (γ.O g) → In (nesC key (off + e) c ow') ((γ.O g).bind (⟨key, ow', off, gv, sh⟩ : Ao).f)) →
      CellR X γ.O w (nesC r e1 c row.ow) ct u → CellR X ((⟨key, ow', off, gv, sh⟩ : Ao).O γ.O nb) w' (nesC key (off + e) c ow') ct u := by
    intro key off ow' gv sh nb w' r e1 e c row ct u hh hn h5 hi hc
    refine hc.re (fun g o hg hin => ?_) (fun hown => ?_)
    · have hne := nes_ne (k := key) hin
      refine ⟨hh g o hg hne, ?_⟩
      have hgn : ¬ some g = nb := fun h => hne (hn g o hg h)
      show In _ ((⟨key, ow', off, gv, sh⟩ : Ao).O γ.O nb g)
      simp only [Ao.O, if_neg hgn]
      exact hi g hin
    · have h6 : ow' = 5 := by revert hown; simp only [nesC]; split <;> simp [Cls.isOwn]
      rw [h5 h6]; rfl
  cases hd : τ.deep with
  | false =>
    refine plain 5 ?_ (by simp) ?_
    · simp only [Lk.apOf, hd]
    · intro key off ow' nb w' _ _ _ _ _ e c ct he hc
      obtain ⟨u, hu, hcv⟩ := hv.cel e c ct he hc
      refine ⟨u, hu, ?_⟩
      have hmem := List.mem_of_getElem? hc
      cases ct with
      | u => exact hcv
      | l σ zs => exact absurd rfl (cells_flat hd _ _ hmem σ zs)
      | _ => exact hcv
  | true =>
    rcases deep_cells hm hR hy hd h hv with h0 | ⟨r, row, offy, hyr, hr, hτ, hform, hcel⟩
    · subst h0
      -- of nothing nothing is handed over, but what it was is gone all the same
      cases hyr : y.row with
      | none =>
        refine plain 5 ?_ (by simp) (fun key off ow' nb w' _ _ _ _ _ e c ct he => by simp at he)
        simp only [Lk.apOf, hd, hyr]
      | some r =>
        cases hr : m.r r with
        | none =>
          refine plain 2 ?_ (by simp) (fun key off ow' nb w' _ _ _ _ _ e c ct he => by simp at he)
          simp only [Lk.apOf, hd, hyr, hr]
        | some row =>
          have hr2 := hm.r r row hr
          by_cases h5 : row.ow = 5
          · by_cases hsw : ∃ s, y = .sw s
            · obtain ⟨s, rfl⟩ := hsw
              have hsr : s = r := by simpa [Cv.row] using hyr
              subst hsr
              have hap : m.apOf τ (.sw s) = ⟨[s], [(s, none)], 5⟩ := by simp only [Lk.apOf, hd, Cv.row, hr, h5]
              rw [hap]
              refine ⟨some s, none, fun k => (by simp), fun k => ?_, fun k hk => (by rw [hk]; rfl), fun k hk => (by cases hk), fun k _ => (by simp), by simp, fun key off ow' nb w' _ _ _ _ _ e c ct he => by simp at he⟩
              simp only [lkZ]; by_cases hk : s = k
              · subst hk; simp
              · simp [hk, Ne.symm hk]
            · have hap : m.apOf τ y = ⟨[], [(r, some { row with ow := 4 })], 4⟩ := by
                simp only [Lk.apOf, hd, hyr, hr, h5]
                cases y <;> first | rfl | exact absurd ⟨_, rfl⟩ hsw
              rw [hap]
              refine ⟨none, some r, fun k => (by simp), fun k => ?_, fun k hk => (by cases hk), fun k hk => ?_, fun k hk => (by cases hk), by simp, fun key off ow' nb w' _ _ _ _ _ e c ct he => by simp at he⟩
              · simp only [lkZ]; by_cases hk : r = k
                · subst hk; simp [hr2]
                · simp [hk, Ne.symm hk]
              · cases hk; exact ⟨hyr, row, hr2, h5⟩
          · have hap : m.apOf τ y = ⟨[], [], (m.apOf τ y).lv⟩ ∧ ((m.apOf τ y).lv = 2 ∨ (m.apOf τ y).lv = 4 ∨ (m.apOf τ y).lv = 5) := by
              simp only [Lk.apOf, hd, hyr, hr]
              split <;> simp_all
            exact plain _ hap.1 hap.2 (fun key off ow' nb w' _ _ _ _ _ e c ct he => by simp at he)
    · subst hτ
      have hr2 := hm.r r row hr
      by_cases h5 : row.ow = 5
      · rcases hform with ⟨rfl, rfl⟩ | ⟨n, rfl⟩
        · have hap : m.apOf row.τ (.sw r) = ⟨[r], [(r, none)], 5⟩ := by simp only [Lk.apOf, hd, Cv.row, hr, h5]
          rw [hap]
          refine ⟨some r, none, fun k => (by simp), fun k => ?_, fun k hk => (by rw [hk]; rfl), fun k hk => (by cases hk), fun k _ => (by simp), by simp, fun key off ow' nb w' how hle hne hh hn e c ct he hc => ?_⟩
          · simp only [lkZ]; by_cases hk : r = k
            · subst hk; simp
            · simp [hk, Ne.symm hk]
          · obtain ⟨u, hu, hcr⟩ := hcel e c ct he hc
            refine ⟨u, hu, cell hh hn (fun _ => h5) (fun g hi => ?_) hcr⟩
            rw [h5] at hi
            have hi : γ.O g = some (.n r (0 + e) c) := hi
            rw [hi]
            show In _ ((⟨key, ow', off, some r, none⟩ : Ao).f (.n r (0 + e) c))
            simp only [Ao.f, if_true, Nat.zero_add]
            exact dn_in how
        · have hap : m.apOf row.τ (.sl r offy n) = ⟨[], [(r, some { row with ow := 4 })], 4⟩ := by simp only [Lk.apOf, hd, Cv.row, hr, h5]
          rw [hap]
          refine ⟨none, some r, fun k => (by simp), fun k => ?_, fun k hk => (by cases hk), fun k hk => ?_, fun k hk => (by cases hk), by simp, fun key off ow' nb w' how hle hne hh hn e c ct he hc => ?_⟩
          · simp only [lkZ]; by_cases hk : r = k
            · subst hk; simp [hr2]
            · simp [hk, Ne.symm hk]
          · cases hk; exact ⟨rfl, row, hr2, h5⟩
          · obtain ⟨u, hu, hcr⟩ := hcel e c ct he hc
            have hle : ow' ≤ 4 := hle
            refine ⟨u, hu, cell hh hn (fun h => by omega) (fun g hi => ?_) hcr⟩
            rw [h5] at hi
            have hi : γ.O g = some (.n r (offy + e) c) := hi
            rw [hi]
            show In _ ((⟨key, ow', off, none, some r⟩ : Ao).f (.n r (offy + e) c))
            have : ¬ (some r = (none : Option Nat)) := by simp
            simp only [Ao.f, if_neg this, if_true]
            rcases how with rfl | rfl | rfl
            · exact .inr rfl
            · exact rfl
            · omega
      · have hap : (m.apOf row.τ y = ⟨[], [], 4⟩ ∧ (row.ow = 4 ∨ row.ow = 3)) ∨ (m.apOf row.τ y = ⟨[], [], 2⟩ ∧ ∀ e c, nesC r e c row.ow = .bor) := by
          simp only [Lk.apOf, hd, hyr, hr]
          split
          · contradiction
          · exact .inl ⟨rfl, .inl (by assumption)⟩
          · exact .inl ⟨rfl, .inr (by assumption)⟩
          · refine .inr ⟨rfl, fun e c => ?_⟩
            simp only [nesC]
        rcases hap with ⟨hap, hk⟩ | ⟨hap, hk⟩
        · refine plain 4 hap (by simp) (fun key off ow' nb w' how hle hne hh hn e c ct he hc => ?_)
          obtain ⟨u, hu, hcr⟩ := hcel e c ct he hc
          refine ⟨u, hu, cell hh hn (fun h => by omega) (fun g hi => ?_) hcr⟩
          have hi : γ.O g = some .fz := by rcases hk with hk | hk <;> rw [hk] at hi <;> exact hi
          rw [hi]
          show In _ (some Ow.fz)
          rcases how with rfl | rfl | rfl
          · exact .inr rfl
          · exact rfl
          · omega
        · refine plain 2 hap (by simp) (fun key off ow' nb w' how hle hne hh hn e c ct he hc => ?_)
          obtain ⟨u, hu, hcr⟩ := hcel e c ct he hc
          refine ⟨u, hu, cell hh hn (fun h => by omega) (fun g hi => ?_) hcr⟩
          rw [hk] at hi
          have h2 : ow' = 2 := by omega
          subst h2
          show (γ.O g).bind _ = none ∨ (γ.O g).bind _ = some Ow.fz
          rcases hi with hi | hi <;> rw [hi]
          · exact .inl rfl
          · exact .inr rfl

theorem appT_inv {τ τ' : Ty} {xs : List (El τ')} {ys : List (El τ)} {zs : List (El τ')} (h : appT τ τ' xs ys = some zs) : ∃ e : τ = τ', zs = xs ++ e ▸ ys := by
  cases τ <;> cases τ' <;> first | (simp only [appT, Option.some.injEq] at h; exact ⟨rfl, h.symm⟩) | (simp [appT] at h; done)

theorem app_core (hX : CtxOk X) (hR : Rel X S.lk γ w) (htop : ∀ g, w.heap.size ≤ g → γ.O g = none) (hm : Le m S.lk) {t ty : TypeId} {τ : Ty} (ht : X.elOwn t = some τ) {key : Nat} {y : Cv} {xv yv : Value}
    (hy : RelC S.lk γ y yv) {ys : List (El τ)} (hct : (m.vw y).ct = some (.l τ ys)) (hne : y.row ≠ some key) {xs : List (El τ)} {ow : Nat} {cs : List Value} (hrow : RowR X γ.O w key ⟨τ, xs, ow⟩ xv cs)
    (hon : ownK ow = true) (hbig : (xs ++ ys).length ≤ BIG) (hkey : ¬ (200000 ≤ key ∧ key < 300000)) :
    ∃ u w' γ', (Builtin.append_ #[t, t] ty #[xv, yv]).run X.P w = .ok u w' ∧
      Step X S γ w (apD key ⟨τ, xs ++ ys, min ow (m.apOf τ y).lv⟩ (m.apOf τ y).gone (m.apOf τ y).rs) γ' w' ∧
      RelC (S.app (apD key ⟨τ, xs ++ ys, min ow (m.apOf τ y).lv⟩ (m.apOf τ y).gone (m.apOf τ y).rs)).lk γ' (.sw key) u := by
  obtain ⟨hu, hlk⟩ := elOwn_inv ht
  obtain ⟨i, z, hi, hz, hs, hb, _, hzs⟩ := own_info hX ht
  obtain ⟨⟨news, hvis⟩, _⟩ := vw_vis hm hR hy hct
  obtain ⟨gv, sh, a1, a2, a3, a4, a5, a6, a7⟩ := apOf_ok hm hR hy hct hvis
  obtain ⟨how, hown', hle⟩ := min_own hon a6
  have hownx : xv.ownBlock = none ∨ True := .inr trivial
  have htopk : topC key ow = .own (.r key) := by simp [topC, hon]
  have hsl : w.ownsRow 0 (X.id τ) (sz τ) xv xs.length cs ∧ ∀ g, xv.ownBlock = some g → γ.O g = some (.r key) := by
    have := hrow.top; rw [htopk] at this; exact this
  have hlen : (xs ++ ys).length = xs.length + ys.length := List.length_append
  -- the run
  have run : ∃ v' w', (Builtin.append_ #[t, t] ty #[xv, yv]).run X.P w = .ok v' w' ∧ w'.ownsRow 0 (X.id τ) (sz τ) v' (xs.length + ys.length) (cs ++ news) ∧ w.grownBy w' xv.ownBlock ∧
      ∀ g, v'.ownBlock = some g → xv.ownBlock = some g ∨ w.heap.size ≤ g := by
    rcases hvis.top.2 with ⟨rfl, h0⟩ | ⟨g, o, cap, cur, e, fz, rfl, hg, _, _, _, _⟩
    · have hn : news = [] := by have := hvis.top.1; rw [h0, Nat.zero_mul] at this; exact List.length_eq_zero_iff.1 this
      refine ⟨xv, w, run_append_owned_none (P := X.P) (w := w) 0 t ty (X.id τ) i (sz τ) hu hi xv xs.length cs hsl.1, ?_, ⟨rfl, rfl, rfl, Nat.le_refl _, fun _ _ _ => rfl⟩, fun g hg => .inl hg⟩
      rw [h0, hn, List.append_nil]; exact hsl.1
    · exact append_run (P := X.P) hu hi hz hs rfl hzs (sz_pos τ) hsl.1 (a := ⟨g, o, none⟩) hvis.top.1 (fun j u hj => by rw [Addr_add]; exact hvis.top.cell rfl hj) (vis_one hvis)
        (by simp only [BIG] at hbig; simp only [maxLen]; omega)
        (by have := Nat.mul_le_mul (show xs.length + ys.length ≤ BIG by omega) hb
            simp only [BIG] at this; omega)
  obtain ⟨v', w', hrun, hown, hgr, hblk⟩ := run
  have hgk : gv ≠ some key := fun h => hne (a3 key h.symm)
  have hsk : sh ≠ some key := fun h => hne (a4 key h.symm).1
  have hheap : ∀ g o, w.heap[g]? = some o → γ.O g ≠ some (.r key) → w'.heap[g]? = some o := fun g o hg ho =>
    (hgr.block g (lt_of_some hg) (fun e => ho (hsl.2 g e.symm))).trans hg
  have hnb0 : ∀ g o, w.heap[g]? = some o → some g = v'.ownBlock → γ.O g = some (.r key) := fun g o hg h => by
    rcases hblk g h.symm with h1 | h1
    · exact hsl.2 g h1
    · have := lt_of_some hg; omega
  have hrow' := ap_row (a := ⟨key, min ow (m.apOf τ y).lv, xs.length, gv, sh⟩) (nb := v'.ownBlock) (ys := ys) (w' := w') hrow rfl hown how hle hon hgk hsk (fun g h => h.symm) hheap
    (fun e c ct he hc => a7 key xs.length _ v'.ownBlock w' how (Nat.min_le_right _ _) hne hheap hnb0 e c ct he hc) hnb0
  obtain ⟨h1, h2⟩ := ap_gen hR htop (a := ⟨key, min ow (m.apOf τ y).lv, xs.length, gv, sh⟩) (row' := ⟨τ, xs ++ ys, min ow (m.apOf τ y).lv⟩) (v := xv) (v' := v') (nb := v'.ownBlock) a1 a2 hgk hsk a5
    (fun k hk => (a4 k hk).2) hgr hsl.2 (fun g h => by
      refine ⟨(hown.lt g h.symm).2, ?_⟩
      rcases hblk g h.symm with h1 | h1
      · exact .inl (hsl.2 g h1)
      · exact .inr h1) hrow' hown' hkey
  exact ⟨v', w', _, hrun, h1, h2⟩

theorem neN_ne {a : Option Nat} {b : Nat} (h : neN a b = true) : a ≠ some b := by
  rintro rfl
  simp [neN, Nat.beq_refl] at h

theorem notIo_ne {r : Nat} (h : notIo r = true) : ¬ (200000 ≤ r ∧ r < 300000) := by
  rintro ⟨h1, h2⟩
  have h3 : Nat.ble 200000 r = true := Nat.ble_eq_true_of_le h1
  have h4 : Nat.ble r 299999 = true := Nat.ble_eq_true_of_le (by omega)
  simp [notIo, h3, h4] at h
theorem app_step (hX : CtxOk X) (hR : Rel X S.lk γ w) (htop : ∀ g, w.heap.size ≤ g → γ.O g = none) (hm : Le m S.lk) {t ty : TypeId} {τ : Ty} (ht : X.elOwn t = some τ) {d : Nat} (hd : d < 1500) {x y : Cv} {xv yv : Value}
    (hx : RelC S.lk γ x xv) (hy : RelC S.lk γ y yv) {v : AV} {δ : Dl} (h : m.append τ d x y = .w true v δ) :
    ∃ u w' γ', (Builtin.append_ #[t, t] ty #[xv, yv]).run X.P w = .ok u w' ∧ Step X S γ w δ γ' w' ∧ RelA (S.app δ).lk γ' v u := by
  simp only [Lk.append] at h
  cases hct : (m.vw y).ct with
  | none => simp [hct] at h
  | some ct =>
    cases ct with
    | l σ ys =>
      simp only [hct] at h
      cases hte : tEq σ τ with
      | false => simp [hte] at h
      | true =>
        have := tEq_eq hte; subst this
        cases x with
        | nl ρ' =>
          simp only [hte] at h
          cases hne : neN y.row (d * 64) with
          | false => simp [hne] at h
          | true =>
            simp only [hne, Out.w.injEq] at h
            obtain ⟨hb, rfl, rfl⟩ := h
            have hx : xv = .slice none 0 0 := hx
            subst hx
            have hrow : RowR X γ.O w (d * 64) ⟨σ, [], 5⟩ (.slice none 0 0) [] := ⟨⟨World.ownsRow_nil w 0 _ _, by simp [Value.ownBlock]⟩, fun e c ct he => by simp at he⟩
            obtain ⟨u, w', γ', h1, h2, h3⟩ := app_core hX hR htop hm (ty := ty) ht hy hct (neN_ne hne) hrow rfl (by simpa using Nat.le_of_ble_eq_true hb) (by omega)
            have hlv : min 5 (m.apOf σ y).lv = (m.apOf σ y).lv := by
              have : (m.apOf σ y).lv ≤ 5 := by
                simp only [Lk.apOf]
                repeat' split
                all_goals simp
              omega
            rw [hlv] at h2 h3
            exact ⟨u, w', γ', h1, h2, RelA.of h3⟩
        | sw r =>
          simp only [hte] at h
          cases hne2 : neN y.row r && notIo r with
          | false => simp [hne2] at h
          | true =>
            have hne2' := hne2
            simp only [Bool.and_eq_true] at hne2'
            obtain ⟨hne, hio⟩ := hne2'
            cases hr : m.r r with
            | none => simp [hne2, hr] at h
            | some row =>
              obtain ⟨τ', xs, ow⟩ := row
              cases ho : ownK ow with
              | false => simp [hne2, hr, ho] at h
              | true =>
                cases hz : appT σ τ' xs ys with
                | none => simp [hne2, hr, ho, hz] at h
                | some zs =>
                  simp only [hne2, hr, ho, hz, Out.w.injEq] at h
                  obtain ⟨hb, rfl, rfl⟩ := h
                  obtain ⟨e, rfl⟩ := appT_inv hz
                  subst e
                  obtain ⟨_, rfl⟩ := hx
                  obtain ⟨u, w', γ', h1, h2, h3⟩ := app_core hX hR htop hm (ty := ty) ht hy hct (neN_ne hne) (hR.rs r _ (hm.r r _ hr)) ho (Nat.le_of_ble_eq_true hb) (notIo_ne hio)
                  exact ⟨u, w', γ', h1, h2, RelA.of h3⟩
        | _ => simp [hte] at h
    | _ => simp [hct] at h

end Go.Soft
