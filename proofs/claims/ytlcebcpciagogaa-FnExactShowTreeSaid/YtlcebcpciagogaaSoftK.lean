/-
  SoftK: slice literals.
-/
import Derived.Test.YtlcebcpciagogaaSoftJ
set_option linter.constructorNameAsVariable false
set_option linter.unusedSimpArgs false
set_option linter.unusedVariables false
namespace Go.Soft
open Go
variable {X : Ctx} {m M : Lk} {γ γ' : Gh} {w w' : World} {ρ : Operand → Value} {S : St} {δ : Dl}

theorem repl_at {α : Type} (a b c : List α) (h : b.length ≤ c.length) : Soft.repl (a ++ c) a.length b = a ++ (b ++ c.drop b.length) := by
  simp only [Soft.repl, List.take_left, List.append_assoc, List.drop_append]
  congr 2
  simp [List.drop_of_length_le]

/-- all parts are there, in order: what is filled is the parts -/
theorem fill_all {z : Nat} : ∀ (parts : List (Nat × Value)) (k : Nat) (cells : Array Value) (pre rest : List Value), (∀ j p, parts[j]? = some p → p.1 = k + j ∧ p.2.cells.size = z) → cells.toList = pre ++ rest → pre.length = k * z →
    rest.length = parts.length * z → ∃ arr, Instr.fill (fun i => some (i * z, z)) cells parts = some arr ∧ arr.toList = pre ++ (parts.flatMap fun p => p.2.cells.toList) := by
  intro parts
  induction parts with
  | nil => intro k cells pre rest _ hc _ hr; exact ⟨cells, rfl, by rw [hc]; simp at hr; simp [hr]⟩
  | cons p parts ih =>
    intro k cells pre rest hp hc hpre hrest
    obtain ⟨i, v⟩ := p
    obtain ⟨h1, h2⟩ := hp 0 (i, v) rfl
    simp only [Nat.add_zero] at h1
    subst h1
    simp only [List.length_cons, Nat.add_mul] at hrest
    have hsz : cells.size = pre.length + rest.length := by rw [← Array.length_toList, hc, List.length_append]
    simp only [Instr.fill]
    rw [if_neg (by simp [h2]; omega)]
    have hf := fold_set (i * z) v.cells.toList 0 cells (by simp [h2]; omega)
    rw [Nat.add_zero, hc] at hf
    have e : (Array.foldl (fun cs (x : Value × Nat) => cs.setIfInBounds (i * z + x.2) x.1) cells v.cells.zipIdx).toList = (pre ++ v.cells.toList) ++ rest.drop z := by
      rw [← Array.foldl_toList, Array.toList_zipIdx]
      rw [hf, ← hpre, repl_at _ _ _ (by simp [h2]; omega)]
      simp [h2]
    obtain ⟨arr, ha, hl⟩ := ih (i + 1) _ (pre ++ v.cells.toList) (rest.drop z) (fun j p hj => by
      obtain ⟨h3, h4⟩ := hp (j + 1) p (by simpa using hj)
      exact ⟨by omega, h4⟩) e (by simp [hpre, h2, Nat.add_mul]) (by simp; omega)
    exact ⟨arr, ha, by rw [hl]; simp⟩

theorem lit_run {P : Program} {t e : TypeId} {i : TypeInfo} {zv : Value} {z n : Nat} {parts : Array (Nat × Value)} (hu : P.underlying t = some (.slice e)) (hi : P.info? e = some i) (hz : i.zero = some zv) (hs : i.size = z) (hzp : 0 < z)
    (hsmall : n * z ≤ 2 ^ 24) (hn : parts.size = n) (hp : ∀ (j : Nat) (p : Nat × Value), parts.toList[j]? = some p → p.1 = j ∧ p.2.cells.size = z) :
    (Instr.buildSlice t n parts).run P w = .ok (.slice (some ⟨w.heap.size, 0, none⟩) n n) (w.alloc (.cells (parts.toList.flatMap fun p => p.2.cells.toList).toArray e)) := by
  subst hs
  by_cases h0 : n = 0
  · subst h0
    have : parts = #[] := Array.eq_empty_of_size_eq_zero hn
    subst this
    simp [Instr.buildSlice, run_underlying hu, run_size hi, Instr.fill, newRow]
    rw [show Array.map (fun _ => (default : Value)) (Array.range 0) = #[] by simp [Array.range]]
  · have hpos : ¬ n * i.size = 0 := by
      intro h; rcases Nat.mul_eq_zero.1 h with h | h <;> omega
    obtain ⟨arr, ha, hl⟩ := fill_all (z := i.size) parts.toList 0 ((Array.range (n * i.size)).map (zv.cells[· % zv.cells.size]!)) [] _ (fun j p hj => by simpa using hp j p hj) (by simp; rfl) (by simp) (by simp [hn])
    have harr : arr = (parts.toList.flatMap fun p => p.2.cells.toList).toArray := by apply Array.toList_inj.1; rw [hl]; simp
    rw [run_buildSlice w t e n parts arr i zv hu hi hz (by omega) hpos ha, harr]

/-- the parts' values -/
inductive RelLL (M : Lk) (γ : Gh) : List (List Cv) → List (List Value) → Prop
  | nil : RelLL M γ [] []
  | cons {x : List Cv} {v : List Value} {l : List (List Cv)} {u : List (List Value)} : RelL M γ x v → RelLL M γ l u → RelLL M γ (x :: l) (v :: u)

theorem newEls_ok (hm : Le m M) (hR : Rel X M γ w) {key ow' : Nat} (how : ow' = 2 ∨ ow' = 4 ∨ ow' = 5) {O' : OM} {w' : World} {τ : Ty} :
    ∀ (l : List (List Cv)) (vss : List (List Value)) (e0 : Nat) (b : Els τ), RelLL M γ l vss → m.newEls τ e0 l = some b → ow' ≤ b.lv → (τ.isByte = true → b.ok = true) → AbsO M γ w O' w' l.flatten b.mv b.sh key ow' →
      b.ys.length = l.length ∧ (∀ (j : Nat) (vs : List Value), vss[j]? = some vs → vs.length = sz τ) ∧ vss.length = l.length ∧
      ∀ (j c : Nat) (ct : Ct), j < l.length → (cells τ (b.ys.getD j (dflt τ)))[c]? = some ct → ∃ u, vss.flatten[j * sz τ + c]? = some u ∧ CellR X O' w' (nesC key (e0 + j) c ow') ct u := by
  intro l
  induction l with
  | nil =>
    intro vss e0 b hr hb _ _ _
    simp only [Lk.newEls, Option.some.injEq] at hb; subst hb
    cases hr
    simp
  | cons x l ih =>
    intro vss e0 b hr hb hle hok hO
    cases hr with
    | cons hx hl =>
      rename_i v u
      simp only [Lk.newEls] at hb
      cases ha : m.absorbs e0 0 x with
      | none => simp [ha] at hb
      | some a =>
        cases hrest : m.newEls τ (e0 + 1) l with
        | none => simp [ha, hrest] at hb
        | some b2 =>
          cases hy : mkEl τ a.cts with
          | none => simp [ha, hrest, hy] at hb
          | some y =>
            simp only [ha, hrest, hy, Option.some.injEq] at hb; subst hb
            simp only at hle hok hO ⊢
            obtain ⟨i1, i2, i3, i4⟩ := ih u (e0 + 1) b2 hl hrest (by omega) (fun h => by have := hok h; simp only [Bool.and_eq_true] at this; exact this.2)
              (hO.mono (fun x hx => by simp [hx]) (fun p hp => by simp [hp]) (fun p hp => by simp [hp]))
            have hcy := mkEl_cells hy (fun h => by have := hok h; simp only [Bool.and_eq_true] at this; exact this.1)
            obtain ⟨h1, h2⟩ := absorbs_ok hm hR how x v 0 a hx ha (by omega) (hO.mono (fun x hx => by simp [hx]) (fun p hp => by simp [hp]) (fun p hp => by simp [hp]))
            have hvl : v.length = sz τ := by rw [← hx.length, ← h1, ← hcy, cells_length]
            refine ⟨by simp [i1], fun j vs hj => ?_, by simp [i3], fun j c ct hj hct => ?_⟩
            · cases j with
              | zero => simp at hj; subst hj; exact hvl
              | succ j => exact i2 j vs (by simpa using hj)
            · cases j with
              | zero =>
                simp only [List.getD_cons_zero, hcy] at hct
                obtain ⟨uu, hu, hcell⟩ := h2 c ct hct
                have hc : c < v.length := (List.getElem?_eq_some_iff.1 hu).1
                exact ⟨uu, by simp only [List.flatten_cons, Nat.zero_mul, Nat.zero_add]; rw [List.getElem?_append_left hc]; exact hu, by simpa using hcell⟩
              | succ j =>
                simp only [List.getD_cons_succ] at hct
                obtain ⟨uu, hu, hcell⟩ := i4 j c ct (by simpa using hj) hct
                refine ⟨uu, ?_, by rw [show e0 + (j + 1) = e0 + 1 + j by omega]; exact hcell⟩
                rw [List.flatten_cons, List.getElem?_append_right (by rw [hvl, Nat.add_mul]; omega), hvl, ← hu]
                congr 1; rw [Nat.add_mul]; omega

theorem newEls_lv {τ : Ty} : ∀ {l : List (List Cv)} {e : Nat} {b : Els τ}, m.newEls τ e l = some b → b.lv = 2 ∨ b.lv = 4 ∨ b.lv = 5
  | [], e, b, h => by simp only [Lk.newEls, Option.some.injEq] at h; subst h; simp
  | x :: l, e, b, h => by
    simp only [Lk.newEls] at h
    cases ha : m.absorbs e 0 x with
    | none => simp [ha] at h
    | some a =>
      cases hr : m.newEls τ (e + 1) l with
      | none => simp [ha, hr] at h
      | some b2 =>
        cases hy : mkEl τ a.cts with
        | none => simp [ha, hr, hy] at h
        | some y =>
          simp only [ha, hr, hy, Option.some.injEq] at h; subst h
          have := absorbs_lv ha
          have := newEls_lv hr
          simp only; omega
theorem newEls_sh {τ : Ty} : ∀ {l : List (List Cv)} {e : Nat} {b : Els τ} {r k : Nat}, m.newEls τ e l = some b → (r, k) ∈ b.sh → ∃ row, m.r r = some row ∧ ((k = 3 ∧ leK 4 row.ow = true) ∨ (k = 4 ∧ row.ow = 5))
  | [], e, b, r, k, h, hs => by simp only [Lk.newEls, Option.some.injEq] at h; subst h; simp at hs
  | x :: l, e, b, r, k, h, hs => by
    simp only [Lk.newEls] at h
    cases ha : m.absorbs e 0 x with
    | none => simp [ha] at h
    | some a =>
      cases hr : m.newEls τ (e + 1) l with
      | none => simp [ha, hr] at h
      | some b2 =>
        cases hy : mkEl τ a.cts with
        | none => simp [ha, hr, hy] at h
        | some y =>
          simp only [ha, hr, hy, Option.some.injEq] at h; subst h
          simp only [List.mem_append] at hs
          rcases hs with hs | hs
          · exact absorbs_sh ha hs
          · exact newEls_sh hr hs

end Go.Soft
