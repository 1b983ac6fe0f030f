/-
  SoftI: stores into what a row's cell has; clear.
-/
import Derived.Test.YtlcebcpciagogaaSoftH
set_option linter.constructorNameAsVariable false
set_option linter.unusedSimpArgs false
set_option linter.unusedVariables false
namespace Go.Soft
open Go
variable {X : Ctx} {m M : Lk} {γ γ' : Gh} {w w' : World} {ρ : Operand → Value} {S : St} {δ : Dl}

theorem fcells_get {τ : Ty} (ys : List (El τ)) {k d : Nat} (hk : k < ys.length) (hd : d < sz τ) : (fcells τ ys)[k * sz τ + d]? = ((cells τ (ys.getD k (dflt τ)))[d]?).map ctVal :=
  getElem?_flatMap_cells τ ys k d hk hd

theorem fcells_set {τ : Ty} (ys : List (El τ)) {k d : Nat} {y : El τ} {cts : List Ct} (hk : k < ys.length) (hd : d + cts.length ≤ sz τ) (hy : cells τ y = Soft.repl (cells τ (ys.getD k (dflt τ))) d cts) :
    fcells τ (ys.set k y) = Soft.repl (fcells τ ys) (k * sz τ + d) (cts.map ctVal) := by
  have hz := sz_pos τ
  have hkz : (k + 1) * sz τ ≤ ys.length * sz τ := Nat.mul_le_mul_right _ hk
  rw [Nat.add_mul] at hkz
  have hfl := fcells_length τ ys
  have hfl' : (fcells τ (ys.set k y)).length = ys.length * sz τ := by rw [fcells_length]; simp
  have hcl : (cells τ (ys.getD k (dflt τ))).length = sz τ := cells_length _ _
  apply List.ext_getElem?
  intro i
  by_cases hi : i < ys.length * sz τ
  · have he : i / sz τ < ys.length := Nat.div_lt_of_lt_mul (by rwa [Nat.mul_comm])
    have hc : i % sz τ < sz τ := Nat.mod_lt _ hz
    have hie : i / sz τ * sz τ + i % sz τ = i := by rw [Nat.mul_comm]; exact Nat.div_add_mod i (sz τ)
    revert he hc hie
    generalize i / sz τ = e
    generalize i % sz τ = c
    intro he hc hie
    subst hie
    rw [fcells_get _ (by simpa using he) hc]
    by_cases hek : e = k
    · subst hek
      rw [show (ys.set e y).getD e (dflt τ) = y by simp [List.getD, he], hy]
      by_cases h1 : c < d
      · rw [repl_get_lt _ _ _ _ h1 (by omega), repl_get_lt _ _ _ _ (by omega) (by rw [hfl]; omega), fcells_get _ he hc]
      · by_cases h2 : c < d + cts.length
        · obtain ⟨j, rfl⟩ : ∃ j, c = d + j := ⟨c - d, by omega⟩
          rw [repl_get_in _ _ _ _ (by omega) (by omega), show e * sz τ + (d + j) = e * sz τ + d + j by omega, repl_get_in _ _ _ _ (by simp; omega) (by rw [hfl]; simp; omega), List.getElem?_map]
        · rw [repl_get_ge _ _ _ _ (by omega) (by omega), repl_get_ge _ _ _ _ (by simp; omega) (by rw [hfl]; simp; omega), fcells_get _ he hc]
    · rw [show (ys.set k y).getD e (dflt τ) = ys.getD e (dflt τ) by simp [List.getD, List.getElem?_set, Ne.symm hek]]
      rcases Nat.lt_or_gt_of_ne hek with h | h
      · have h3 : (e + 1) * sz τ ≤ k * sz τ := Nat.mul_le_mul_right _ h
        rw [Nat.add_mul] at h3
        rw [repl_get_lt _ _ _ _ (by omega) (by rw [hfl]; omega), fcells_get _ he hc]
      · have h3 : (k + 1) * sz τ ≤ e * sz τ := Nat.mul_le_mul_right _ h
        rw [Nat.add_mul] at h3
        rw [repl_get_ge _ _ _ _ (by simp; omega) (by rw [hfl]; simp; omega), fcells_get _ he hc]
  · rw [List.getElem?_eq_none (by omega), List.getElem?_eq_none]
    rw [repl_length _ _ _ (by rw [hfl]; simp; omega)]; omega

/-- flat cells are as they are told -/
theorem flat_cts (m : Lk) : ∀ {vl : List Cv} {us : List Value} {cts : List Ct}, allFlat vl = true → RelL M γ vl us → m.cts vl = some cts → us = cts.map ctVal ∧ cts.length = vl.length
  | [], us, cts, _, hr, h => by cases hr; simp only [Lk.cts, Option.some.injEq] at h; subst h; simp
  | x :: vl, us, cts, hf, hr, h => by
    cases hr with
    | cons hx hl =>
      rename_i v us
      have : ∃ ct, m.ct x = some ct ∧ v = ctVal ct ∧ allFlat vl = true := by
        cases x <;> simp only [allFlat] at hf <;> first | (cases hf; done) | exact ⟨_, rfl, hx, hf⟩
      obtain ⟨ct, h1, rfl, hf⟩ := this
      simp only [Lk.cts, h1] at h
      cases h2 : m.cts vl with
      | none => simp [h2] at h
      | some c2 =>
        simp only [h2, Option.some.injEq] at h; subst h
        obtain ⟨i1, i2⟩ := flat_cts m hf hl h2
        simp [i1, i2]

theorem pn_step (hR : Rel X S.lk γ w) (htop : ∀ g, w.heap.size ≤ g → γ.O g = none) (hm : Le m S.lk) {r e c k d : Nat} {row : Row} {vl : List Cv} {cts : List Ct} {τ : Ty} {ys : List (El τ)} {y : El τ} {z : El row.τ} {av v : Value} {t : TypeId}
    (hr : m.r r = some row) (ho : row.ow = 5) (hfl : allFlat vl = true) (hcts : m.cts vl = some cts) (hc : (row.cs e)[c]? = some (.l τ ys)) (hd : d + vl.length ≤ sz τ)
    (hy : mkEl τ (Soft.repl (cells τ (ys.getD k (dflt τ))) d cts) = some y) (hz : mkEl row.τ (Soft.repl (row.cs e) c [.l τ (ys.set k y)]) = some z) (hok : okEl τ cts = true)
    (hv : RelL S.lk γ vl v.cells.toList) (hav : RelC S.lk γ (.pn r e c k d) av) (hs : vl.length = szOf X.P t) (hp : 0 < vl.length) :
    ∃ w', (Instr.storeAt t av v).run X.P w = .ok () w' ∧ Step X S γ w (pfD r { row with xs := row.xs.set e z }) γ w' := by
  have hr2 := hm.r r row hr
  obtain ⟨row', τ', ys', u, hr', he, hc', hu, hk, g, o, n', cap, hb, rfl⟩ := hav
  rw [hr2] at hr'; cases hr'
  rw [hc] at hc'; cases hc'
  have hrow := hR.rs r row hr2
  obtain ⟨u', hu', hdeep, hsl⟩ := hrow.cel e c _ he hc
  rw [hu] at hu'; cases hu'
  have hn5 : ∀ e c, nesC r e c row.ow = .own (.n r e c) := by intro e c; rw [ho]; rfl
  have ht5 : topC r row.ow = .own (.r r) := by rw [ho]; rfl
  rw [hn5] at hsl
  obtain ⟨hown, howner⟩ := hsl
  obtain ⟨hus, hclen⟩ := flat_cts m hfl hv hcts
  rcases hown.2 with ⟨h1, _⟩ | ⟨g1, cap1, cur, h1, _, hg, hnc, hcm, hcs, ht⟩
  · rw [h1] at hb; cases hb
  have hgo : g1 = g ∧ 0 = o := by
    rw [h1] at hb; injection hb with h _ _; injection h with h; injection h with h2 h3 _; exact ⟨h2, h3⟩
  obtain ⟨rfl, rfl⟩ := hgo
  have hOg : γ.O g1 = some (.n r e c) := howner g1 (by rw [h1]; rfl)
  have hvl := hv.length
  have hkz : (k + 1) * sz τ ≤ ys.length * sz τ := Nat.mul_le_mul_right _ hk
  rw [Nat.add_mul] at hkz
  have hcz : ys.length * sz τ ≤ cur.size := by rw [hcs]; exact Nat.mul_le_mul_right _ hnc
  have hrun := store_run (X := X) (t := t) (v := v) (o := 0 + (k * sz τ + d)) hg (by simp at hvl; omega) (by simp at hvl; omega) (by simp at hvl; omega) (hv.one hR)
  have hcy : cells τ y = Soft.repl (cells τ (ys.getD k (dflt τ))) d cts := mkEl_cells hy (fun hby => by
    have hone : τ = .byte := by revert hby; cases τ <;> simp [Ty.isByte]
    have h2 : sz τ = 1 := by rw [hone]; rfl
    have h3 : (cells τ (ys.getD k (dflt τ))).length = 1 := by rw [cells_length, h2]
    have h5 : d = 0 := by omega
    subst h5
    have h6 : vl.length = 1 := by omega
    have : Soft.repl (cells τ (ys.getD k (dflt τ))) 0 cts = cts := by
      simp only [Soft.repl, hclen, h6, List.take_zero, List.nil_append, Nat.zero_add]
      rw [List.drop_of_length_le (by omega), List.append_nil]
    rw [this]; exact hok)
  have hcz' : cells row.τ z = Soft.repl (row.cs e) c [.l τ (ys.set k y)] := mkEl_cells hz (fun hby => by
    exfalso
    have hone : row.τ.deep = false := by revert hby; cases row.τ <;> simp [Ty.isByte, Ty.deep]
    exact absurd rfl (cells_flat hone _ _ (List.mem_of_getElem? hc) τ ys))
  have hcse : (row.cs e).length = sz row.τ := cells_length _ _
  have hcc : c < (row.cs e).length := (List.getElem?_eq_some_iff.1 hc).1
  let row' : Row := { row with xs := row.xs.set e z }
  have hcsE : row'.cs e = Soft.repl (row.cs e) c [.l τ (ys.set k y)] := by
    show cells row.τ ((row.xs.set e z).getD e (dflt row.τ)) = _
    rw [show (row.xs.set e z).getD e (dflt row.τ) = z by simp [List.getD, he]]
    exact hcz'
  have hcsN : ∀ e' : Nat, e' ≠ e → row'.cs e' = row.cs e' := by
    intro e' hne
    show cells row.τ ((row.xs.set e z).getD e' (dflt row.τ)) = cells row.τ (row.xs.getD e' (dflt row.τ))
    rw [show (row.xs.set e z).getD e' (dflt row.τ) = row.xs.getD e' (dflt row.τ) by simp [List.getD, List.getElem?_set, Ne.symm hne]]
  -- the cells behind: at (e, c) the list that is changed, else as before
  have hcsG : ∀ e' c' ct, (row'.cs e')[c']? = some ct → (e' = e ∧ c' = c ∧ ct = .l τ (ys.set k y)) ∨ (¬ (e' = e ∧ c' = c) ∧ (row.cs e')[c']? = some ct) := by
    intro e' c' ct h
    by_cases hee : e' = e
    · subst hee
      rw [hcsE] at h
      rcases Nat.lt_trichotomy c' c with h1 | h1 | h1
      · rw [repl_get_lt _ _ _ _ h1 (by omega)] at h; exact .inr ⟨by omega, h⟩
      · subst h1
        have := repl_get_in (row.cs e') [Ct.l τ (ys.set k y)] c' 0 (by simp) (by simp; omega)
        rw [Nat.add_zero] at this
        rw [this] at h; simp at h; exact .inl ⟨rfl, rfl, h.symm⟩
      · rw [repl_get_ge _ _ _ _ (by simp; omega) (by simp; omega)] at h; exact .inr ⟨by omega, h⟩
    · rw [hcsN e' hee] at h; exact .inr ⟨fun h => hee h.1, h⟩
  have hblk : ∀ g, g ≠ g1 → (w.setRow g1 (Soft.repl cur.toList (0 + (k * sz τ + d)) v.cells.toList).toArray).heap[g]? = w.heap[g]? := fun g h => set_other w _ _ g h
  refine ⟨_, hrun, ?_⟩
  have hchg : Chg (· = r) γ w γ (w.setRow g1 (Soft.repl cur.toList (0 + (k * sz τ + d)) v.cells.toList).toArray) :=
    ⟨rfl, rfl, rfl, by simp, fun g hg' hne => ⟨hblk g (fun h => by have := (hne r rfl).2 e c; rw [h, hOg] at this; exact this rfl), rfl⟩, fun g hg' => htop g (by simpa using hg'), rfl, fun _ _ => ⟨rfl, rfl⟩⟩
  have hnewrow : RowR X γ.O (w.setRow g1 (Soft.repl cur.toList (0 + (k * sz τ + d)) v.cells.toList).toArray) r row' (γ.rv r) (γ.cv r) := by
    have htp := hrow.top
    refine ⟨?_, fun e' c' ct he' hct => ?_⟩
    · show Sl X γ.O _ (topC r row.ow) row.τ _ (row.xs.set e z).length _
      rw [List.length_set]
      refine htp.re (fun g o hg' hi => ?_) id
      rw [ht5] at hi
      have hi : γ.O g = some (.r r) := hi
      exact ⟨(hblk g (fun h => by rw [h, hOg] at hi; cases hi)).trans hg', by rw [ht5]; exact hi⟩
    · have he2 : e' < row.xs.length := by simpa [row'] using he'
      show ∃ u, (γ.cv r)[e' * sz row.τ + c']? = some u ∧ CellR X γ.O _ (nesC r e' c' row.ow) ct u
      rcases hcsG e' c' ct hct with ⟨rfl, rfl, rfl⟩ | ⟨hne, hct2⟩
      · refine ⟨u, hu, hdeep, ?_⟩
        rw [hn5]
        refine ⟨⟨by rw [fcells_length], .inr ⟨g1, cap1, _, by rw [h1]; simp, Nat.zero_le _, set_same w _ _ _ _ _ hg, by simpa using hnc, hcm, ?_, ?_⟩⟩, howner⟩
        · rw [List.size_toArray, repl_length _ _ _ (by simp only [Array.length_toList] at hvl ⊢; omega), Array.length_toList, hcs]
        · rw [List.length_set, List.toList_toArray, take_repl _ _ _ _ (by omega) (by simpa using hcz), ht, fcells_set ys hk (by omega) hcy, Nat.zero_add, hus]
      · obtain ⟨u2, hu2, hcell⟩ := hrow.cel e' c' ct he2 hct2
        refine ⟨u2, hu2, hcell.re (fun g o hg' hi => ?_) id⟩
        rw [hn5] at hi
        have hi : γ.O g = some (.n r e' c') := hi
        exact ⟨(hblk g (fun h => by rw [h, hOg] at hi; simp at hi; exact hne ⟨hi.1.symm, hi.2.symm⟩)).trans hg', by rw [hn5]; exact hi⟩
  refine rows_step hR rfl hchg ?_ ?_ ?_ (one_k1 (by show row.ow ≠ 1; rw [ho]; decide)) (fun _ _ _ => rfl)
  · refine keep_of hR rfl (fun j rk hj _ => ⟨?_, rfl⟩) (fun j rk rk' hj _ _ h => ?_) (fun j _ _ _ => ⟨fun rk rk' hj h => ?_⟩) (fun j cs hj _ => ⟨⟨_, by rw [pf_v, hj]; rfl⟩, rfl⟩)
    · rw [pf_r]; by_cases h : r = j
      · exact ⟨_, if_pos h⟩
      · exact ⟨rk, by rw [if_neg h]; exact hj⟩
    · rw [pf_r] at h
      by_cases hk2 : r = j
      · subst hk2; rw [if_pos rfl] at h; cases h
        rw [hr2] at hj; cases hj
        exact ⟨rfl, by simp⟩
      · rw [if_neg hk2, hj] at h; cases h; exact ⟨rfl, Nat.le_refl _⟩
    · rw [pf_r] at h
      by_cases hk2 : r = j
      · subst hk2; rw [if_pos rfl] at h; cases h
        rw [hr2] at hj; cases hj
        intro e1 c1 σ zs he1 hc1
        refine ⟨?_, rfl⟩
        by_cases hpos : e1 = e ∧ c1 = c
        · obtain ⟨rfl, rfl⟩ := hpos
          rw [hc] at hc1; cases hc1
          refine ⟨ys.set k y, ?_, by simp⟩
          show (row'.cs e1)[c1]? = _
          rw [hcsE]
          have := repl_get_in (row.cs e1) [Ct.l τ (ys.set k y)] c1 0 (by simp) (by simp; omega)
          rw [Nat.add_zero] at this
          rw [this]; rfl
        · refine ⟨zs, ?_, Nat.le_refl _⟩
          show (row'.cs e1)[c1]? = _
          by_cases hee : e1 = e
          · subst hee
            rw [hcsE]
            rcases Nat.lt_trichotomy c1 c with h1 | h1 | h1
            · rw [repl_get_lt _ _ _ _ h1 (by omega)]; exact hc1
            · exact absurd ⟨rfl, h1⟩ hpos
            · rw [repl_get_ge _ _ _ _ (by simp; omega) (by simp; omega)]; exact hc1
          · rw [hcsN e1 hee]; exact hc1
      · rw [if_neg hk2, hj] at h; cases h
        intro e1 c1 σ zs _ hc1
        exact ⟨⟨zs, hc1, Nat.le_refl _⟩, rfl⟩
  · intro j rk h
    have h : (if r = j then some (some row') else none) = some (some rk) := h
    by_cases hj : r = j
    · subst hj; rw [if_pos rfl] at h; cases h; exact hnewrow
    · rw [if_neg hj] at h; cases h
  · intro j rk h _ hj
    have h : (if r = j then some (some row') else none) = none := h
    rw [if_pos hj.symm] at h; cases h

end Go.Soft
