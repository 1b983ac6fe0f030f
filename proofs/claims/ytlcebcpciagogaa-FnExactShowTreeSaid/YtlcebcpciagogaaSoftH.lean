/-
  SoftH: the store into an element of a row.
-/
import Derived.Test.YtlcebcpciagogaaSoftG
set_option linter.constructorNameAsVariable false
set_option linter.unusedSimpArgs false
set_option linter.unusedVariables false
namespace Go.Soft
open Go
variable {X : Ctx} {m M : Lk} {γ γ' : Gh} {w w' : World} {ρ : Operand → Value} {S : St} {δ : Dl}

def peRo (r e c : Nat) (row : Row) (vl : List Cv) (a : Abs) : Ro :=
  ⟨r, min row.ow a.lv, true, fun e' c' => decide (e' = e) && (decide (c ≤ c') && decide (c' < c + vl.length)), a.mv, a.sh⟩
def peG (γ : Gh) (r e c : Nat) (row : Row) (vl : List Cv) (a : Abs) (us : List Value) : Gh :=
  { γ with O := (peRo r e c row vl a).O γ.O none, cv := updN γ.cv r (Soft.repl (γ.cv r) (e * sz row.τ + c) us) }

theorem nes_ne {r e c ow k : Nat} {o : Option Ow} (h : In (nesC r e c ow) o) : o ≠ some (.r k) := by
  revert h; simp only [nesC]; split
  · intro h; have h : o = _ := h; rw [h]; simp
  · intro h; have h : o = _ := h; rw [h]; simp
  · intro h; have h : o = _ := h; rw [h]; simp
  · rintro (h | h) <;> rw [h] <;> simp
theorem Ro.nes (a : Ro) (hk : a.key ∉ keys a.sh) {old : Nat} (hold : ownK old = true) (how : a.ow' = 2 ∨ a.ow' = 4 ∨ a.ow' = 5) (hle : leK a.ow' old = true) {e c g : Nat} {O : OM} (hd : a.dead e c = false)
    (h : In (nesC a.key e c old) (O g)) : In (nesC a.key e c a.ow') (a.O O none g) := by
  have hn : O g = none → a.O O none g = none := fun h => by simp [Ro.O, h]
  have hf : O g = some .fz → a.O O none g = some .fz := fun h => by simp [Ro.O, h, Ro.f]
  have ho : O g = some (.n a.key e c) → a.O O none g = some (dn a.ow' a.key e c) := fun h => by simp [Ro.O, h, Ro.f, lk_none.2 hk, hd]
  rcases ownK_cases hold with rfl | rfl | rfl
  · have h2 : a.ow' = 2 := by rcases how with h | h | h <;> rw [h] at hle <;> simp_all [leK]
    rw [h2]
    rcases h with h | h
    · exact .inl (hn h)
    · exact .inr (hf h)
  · have h : O g = some .fz := h
    rcases how with h2 | h2 | h2
    · rw [h2]; exact .inr (hf h)
    · rw [h2]; exact hf h
    · rw [h2] at hle; simp [leK] at hle
  · have h : O g = some (.n a.key e c) := h
    rw [ho h]
    exact dn_in how

theorem pe_row (hR : Rel X S.lk γ w) (htop : ∀ g, w.heap.size ≤ g → γ.O g = none) (hm : Le m S.lk) {r e c : Nat} {row : Row} {vl : List Cv} {a : Abs} {y : El row.τ} {av v : Value} {t : TypeId}
    (hr : m.r r = some row) (ho : ownK row.ow = true) (ha : m.absorbs e c vl = some a) (hlen : c + vl.length ≤ sz row.τ) (hy : mkEl row.τ (Soft.repl (row.cs e) c a.cts) = some y)
    (hok : okEl row.τ a.cts = true) (hap : (peRo r e c row vl a).apart) (hv : RelL S.lk γ vl v.cells.toList) (hav : RelC S.lk γ (.pe r e c) av) (hs : vl.length = szOf X.P t) (hp : 0 < vl.length) :
    ∃ w', (Instr.storeAt t av v).run X.P w = .ok () w' ∧ Chg (peRo r e c row vl a).R γ w (peG γ r e c row vl a v.cells.toList) w' ∧
      RowR X ((peRo r e c row vl a).O γ.O none) w' r { row with xs := row.xs.set e y, ow := min row.ow a.lv } (γ.rv r) (Soft.repl (γ.cv r) (e * sz row.τ + c) v.cells.toList) ∧
      (∀ g, g < w.heap.size → γ.O g ≠ some (.r r) → w'.heap[g]? = w.heap[g]?) ∧ (∀ e' : Nat, e' ≠ e → ({ row with xs := row.xs.set e y, ow := min row.ow a.lv } : Row).cs e' = row.cs e') ∧
      (({ row with xs := row.xs.set e y, ow := min row.ow a.lv } : Row).cs e = Soft.repl (row.cs e) c a.cts) ∧ e < row.xs.length := by
  have hr2 := hm.r r row hr
  obtain ⟨row', hr', he, g, o, n', cap, hb, rfl⟩ := hav
  rw [hr2] at hr'; cases hr'
  have hrow := hR.rs r row hr2
  have htopO : topC r row.ow = .own (.r r) := by simp [topC, ho]
  have htp := hrow.top
  rw [htopO] at htp
  obtain ⟨hown, howner⟩ := htp
  obtain ⟨hlv1, hlv2, hlv3⟩ := min_own ho (absorbs_lv ha)
  have hul : v.cells.size = vl.length := by have := hv.length; simp at this; omega
  rcases hown.2 with ⟨h1, _⟩ | ⟨g1, cap1, cur, h1, _, hg, hnc, hcm, hcs, ht⟩
  · rw [h1] at hb; cases hb
  have hgo : g1 = g ∧ 0 = o := by
    rw [h1] at hb; injection hb with h _ _; injection h with h; injection h with h2 h3 _; exact ⟨h2, h3⟩
  obtain ⟨rfl, rfl⟩ := hgo
  have hOg : γ.O g1 = some (.r r) := howner g1 (by rw [h1]; rfl)
  have hlt := lt_of_some hg
  have hez : (e + 1) * sz row.τ ≤ row.xs.length * sz row.τ := Nat.mul_le_mul_right _ he
  rw [Nat.add_mul] at hez
  have hcz : row.xs.length * sz row.τ ≤ cur.size := by rw [hcs]; exact Nat.mul_le_mul_right _ hnc
  have hcvl : (γ.cv r).length = row.xs.length * sz row.τ := hown.1
  have hrun := store_run (X := X) (t := t) (v := v) (o := 0 + (e * sz row.τ + c)) hg (by omega) (by omega) (by omega) (hv.one hR)
  rw [Nat.zero_add] at hrun
  have hblk : ∀ g, g < w.heap.size → γ.O g ≠ some (.r r) → (w.setRow g1 (Soft.repl cur.toList (e * sz row.τ + c) v.cells.toList).toArray).heap[g]? = w.heap[g]? :=
    fun g _ hne => set_other w _ _ g (fun h => hne (by rw [h]; exact hOg))
  have hcty := mkEl_cells hy (fun hby => by
    have hone : row.τ = .byte := by revert hby; cases row.τ <;> simp [Ty.isByte]
    have : Soft.repl (row.cs e) c a.cts = a.cts := by
      have h2 : sz row.τ = 1 := by rw [hone]; rfl
      have h3 : (row.cs e).length = 1 := by rw [row_cs, cells_length, h2]
      have h4 := (absorbs_len ha)
      have h5 : c = 0 := by omega
      subst h5
      have h6 : vl.length = 1 := by omega
      simp only [Soft.repl, h4, h6, List.take_zero, List.nil_append, Nat.zero_add]
      rw [List.drop_of_length_le (by omega), List.append_nil]
    rw [this]; exact hok)
  have hclen : a.cts.length = vl.length := absorbs_len ha
  have hcse : (row.cs e).length = sz row.τ := cells_length _ _
  have hcsE : ({ row with xs := row.xs.set e y, ow := min row.ow a.lv } : Row).cs e = Soft.repl (row.cs e) c a.cts := by
    simp only [Row.cs]
    rw [show (row.xs.set e y).getD e (dflt row.τ) = y by simp [List.getD, he]]
    exact hcty
  have hcsN : ∀ e' : Nat, e' ≠ e → ({ row with xs := row.xs.set e y, ow := min row.ow a.lv } : Row).cs e' = row.cs e' := by
    intro e' hne
    simp only [Row.cs]
    rw [show (row.xs.set e y).getD e' (dflt row.τ) = row.xs.getD e' (dflt row.τ) by simp [List.getD, List.getElem?_set, Ne.symm hne]]
  have hrw : r ∉ keys a.mv ∧ r ∉ keys a.sh := by
    have := hap; simp only [Ro.apart, peRo, List.nodup_cons, List.mem_append, not_or] at this; exact this.1
  have hOf : ∀ g o, γ.O g = some o → (peRo r e c row vl a).O γ.O none g = (peRo r e c row vl a).f o := by
    intro g o h; simp only [Ro.O, h]; simp
  have hfr : (peRo r e c row vl a).f (.r r) = some (.r r) := by
    simp [Ro.f, peRo, lk_none.2 hrw.1, lk_none.2 hrw.2]
  refine ⟨_, by rw [Nat.zero_add]; exact hrun, ?_, ?_, hblk, hcsN, hcsE, he⟩
  · exact (peRo r e c row vl a).chg htop rfl rfl rfl (by simp) (by simp) hblk (fun r' hne => by simp only [updN]; have hne : r' ≠ r := hne; simp [hne])
  · refine ⟨?_, fun e' c' ct he' hct => ?_⟩
    · have htopN : topC r (min row.ow a.lv) = .own (.r r) := by simp [topC, hlv2]
      rw [htopN]
      refine ⟨⟨?_, .inr ⟨g1, cap1, _, ?_, Nat.zero_le _, set_same w _ _ _ _ _ hg, ?_, hcm, ?_, ?_⟩⟩, fun g hg' => ?_⟩
      · rw [repl_length _ _ _ (by rw [hcvl]; simp; omega), hcvl]; simp
      · rw [h1]; simp
      · simpa using hnc
      · simp [repl_length _ _ _ (show e * sz row.τ + c + v.cells.toList.length ≤ cur.toList.length by simp; omega), hcs]
      · rw [List.length_set]
        simp only [List.toList_toArray]
        rw [take_repl _ _ _ _ (by simp; omega) (by simpa using hcz), ht]
      · rw [hOf g (.r r) (howner g hg'), hfr]
    · have he2 : e' < row.xs.length := by simpa using he'
      -- what was there is seen anew
      have old : ∀ ct u, (row.cs e')[c']? = some ct → CellR X γ.O w (nesC r e' c' row.ow) ct u → (e' ≠ e ∨ c' < c ∨ c + vl.length ≤ c') →
          CellR X ((peRo r e c row vl a).O γ.O none) (w.setRow g1 (Soft.repl cur.toList (e * sz row.τ + c) v.cells.toList).toArray) (nesC r e' c' (min row.ow a.lv)) ct u := by
        intro ct u hct hcell hout
        refine hcell.re (fun g o hg hi => ?_) (leK_nes hlv3 r r e' c')
        refine ⟨(hblk g (lt_of_some hg) (nes_ne hi)).trans hg, ?_⟩
        refine (peRo r e c row vl a).nes hrw.2 ho hlv1 hlv3 ?_ hi
        simp only [peRo]
        by_cases h1 : e' = e
        · have h2 : ¬ (c ≤ c' ∧ c' < c + vl.length) := by omega
          simp only [h1, decide_true, Bool.true_and, Bool.and_eq_false_iff, decide_eq_false_iff_not]
          omega
        · simp [h1]
      by_cases hee : e' = e
      · subst hee
        rw [hcsE] at hct
        by_cases hin : c ≤ c' ∧ c' < c + vl.length
        · obtain ⟨j, rfl⟩ : ∃ j, c' = c + j := ⟨c' - c, by omega⟩
          rw [repl_get_in _ _ _ _ (by omega) (by omega)] at hct
          have habs := (peRo r e' c row vl a).absO (M := S.lk) hap hlv1 (w := w) (w' := w.setRow g1 (Soft.repl cur.toList (e' * sz row.τ + c) v.cells.toList).toArray) (γ := γ) (nb := none) (by simp) htop (xs := vl)
            (fun g o hg hi => ?_)
          · obtain ⟨_, h2⟩ := absorbs_ok hm hR hlv1 vl _ c a hv ha (Nat.min_le_right _ _) habs
            obtain ⟨u, hu, hcell⟩ := h2 j ct hct
            exact ⟨u, by rw [show e' * sz row.τ + (c + j) = e' * sz row.τ + c + j by omega, repl_get_in _ _ _ _ (by simp; omega) (by rw [hcvl]; simp; omega)]; exact hu, hcell⟩
          · refine (hblk g (lt_of_some hg) ?_).trans hg
            obtain ⟨x, hx, hi⟩ := hi
            have top : ∀ r' row', (x = .sw r' ∨ ∃ o n, x = .sl r' o n) → S.lk.r r' = some row' → In (topC r' row'.ow) (γ.O g) → γ.O g ≠ some (.r r) := by
              intro r' row' hxr hr' hin heq
              have hr'r : r' = r := by
                rcases In_topC hin with h | h | h | ⟨_, _, h⟩ <;> rw [heq] at h <;> simp at h
                exact h.symm
              subst hr'r
              rcases absorbs_own ha hx hxr hr ho with h | h
              · exact hrw.1 h
              · exact hrw.2 h
            cases x <;> simp only [TopA] at hi <;> try exact hi.elim
            all_goals obtain ⟨row', hr', hin⟩ := hi
            · exact top _ _ (.inl rfl) hr' hin
            · exact top _ _ (.inr ⟨_, _, rfl⟩) hr' hin
            · exact nes_ne hin
            · exact nes_ne hin
        · have hout : c' < c ∨ c + vl.length ≤ c' := by omega
          have hct2 : (row.cs e')[c']? = some ct := by
            rcases hout with h | h
            · rwa [repl_get_lt _ _ _ _ h (by omega)] at hct
            · rwa [repl_get_ge _ _ _ _ (by omega) (by omega)] at hct
          obtain ⟨u, hu, hcell⟩ := hrow.cel e' c' ct he2 hct2
          have hc' : c' < sz row.τ := by have := (List.getElem?_eq_some_iff.1 hct2).1; omega
          refine ⟨u, ?_, old ct u hct2 hcell (.inr hout)⟩
          show (Soft.repl (γ.cv r) (e' * sz row.τ + c) _)[e' * sz row.τ + c']? = some u
          rcases hout with h | h
          · rw [repl_get_lt _ _ _ _ (by omega) (by rw [hcvl]; omega)]; exact hu
          · rw [repl_get_ge _ _ _ _ (by simp; omega) (by rw [hcvl]; simp; omega)]; exact hu
      · rw [hcsN e' hee] at hct
        obtain ⟨u, hu, hcell⟩ := hrow.cel e' c' ct he2 hct
        have hc' : c' < sz row.τ := by have := (List.getElem?_eq_some_iff.1 hct).1; rw [row_cs, cells_length] at this; exact this
        refine ⟨u, ?_, old ct u hct hcell (.inl hee)⟩
        show (Soft.repl (γ.cv r) (e * sz row.τ + c) _)[e' * sz row.τ + c']? = some u
        rcases Nat.lt_or_gt_of_ne hee with h | h
        · have h3 : (e' + 1) * sz row.τ ≤ e * sz row.τ := Nat.mul_le_mul_right _ h
          rw [Nat.add_mul] at h3
          rw [repl_get_lt _ _ _ _ (by omega) (by rw [hcvl]; omega)]; exact hu
        · have h3 : (e + 1) * sz row.τ ≤ e' * sz row.τ := Nat.mul_le_mul_right _ h
          rw [Nat.add_mul] at h3
          rw [repl_get_ge _ _ _ _ (by simp; omega) (by rw [hcvl]; simp; omega)]; exact hu

theorem lkZ_gone (mv : List (Nat × (Nat × Nat))) (k : Nat) : lkZ (gone mv) k = if k ∈ keys mv then some none else none := by
  induction mv with
  | nil => simp [gone, lkZ, keys]
  | cons p mv ih =>
    obtain ⟨j, q⟩ := p
    simp only [gone, lkZ, ih, keys, List.mem_cons]
    by_cases h1 : k ∈ keys mv
    · simp [h1]
    · by_cases h2 : j = k
      · simp [h1, h2]
      · simp [h1, h2, Ne.symm h2]
theorem lkZ_share {sh : List (Nat × Nat)} (hn : (keys sh).Nodup) (hp : ∀ r k, (r, k) ∈ sh → ∃ row, m.r r = some row) (k : Nat) :
    lkZ (m.share sh) k = match lk sh k with | some n => (m.r k).map (fun row => some { row with ow := n }) | none => none := by
  induction sh with
  | nil => rfl
  | cons p sh ih =>
    obtain ⟨r, n⟩ := p
    simp only [keys, List.nodup_cons] at hn
    obtain ⟨row, hr⟩ := hp r n (by simp)
    have ih := ih hn.2 (fun r k h => hp r k (List.mem_cons_of_mem _ h))
    simp only [Lk.share, hr, lkZ, lk]
    cases hb : Nat.beq r k with
    | true =>
      have := nat_beq hb; subst this
      rw [ih, lk_none.2 hn.1]
      simp [hr]
    | false =>
      have hne : ¬ r = k := by rintro rfl; rw [Nat.beq_refl] at hb; cases hb
      rw [ih]
      simp only [hne, if_false]
      cases lk sh k with
      | none => rfl
      | some n => cases m.r k <;> rfl
theorem lk_pvs (r : Nat) (mv : List (Nat × (Nat × Nat))) (k : Nat) : lk (pvs r mv) k = (lk mv k).map fun p => (r, p.1, p.2) := by
  induction mv with
  | nil => rfl
  | cons p mv ih =>
    obtain ⟨j, e, c⟩ := p
    simp only [pvs, lk]
    cases Nat.beq j k <;> simp [ih]

def peD (m : Lk) (r : Nat) (row' : Row) (a : Abs) : Dl := { Dl.z with mv := pvs r a.mv, kn := [r], rs := gone a.mv ++ (m.share a.sh ++ [(r, some row')]) }

theorem peD_rs {r : Nat} {row' : Row} {a : Abs} (hap : (r :: (keys a.mv ++ keys a.sh)).Nodup) (hp : ∀ r k, (r, k) ∈ a.sh → ∃ row, m.r r = some row) (k : Nat) :
    lkZ (peD m r row' a).rs k = if r = k then some (some row') else match lk a.sh k with
      | some n => (m.r k).map (fun row => some { row with ow := n })
      | none => if k ∈ keys a.mv then some none else none := by
  have hsn : (keys a.sh).Nodup := by
    simp only [List.nodup_cons, List.nodup_append] at hap; exact hap.2.2.1
  simp only [peD, lkZ_append, lkZ_one, lkZ_share hsn hp, lkZ_gone]
  by_cases h : r = k
  · simp [h]
  · simp only [h, if_false]
    cases hl : lk a.sh k with
    | none => rfl
    | some n =>
      obtain ⟨row, hr⟩ := hp k n (lk_mem hl)
      simp [hr]

theorem pe_step (hR : Rel X S.lk γ w) (htop : ∀ g, w.heap.size ≤ g → γ.O g = none) (hm : Le m S.lk) {r e c : Nat} {row : Row} {vl : List Cv} {a : Abs} {y : El row.τ} {av v : Value} {t : TypeId}
    (hr : m.r r = some row) (ho : ownK row.ow = true) (ha : m.absorbs e c vl = some a) (hlen : c + vl.length ≤ sz row.τ) (hy : mkEl row.τ (Soft.repl (row.cs e) c a.cts) = some y)
    (hok : okEl row.τ a.cts = true) (hap : (r :: (keys a.mv ++ keys a.sh)).Nodup) (hv : RelL S.lk γ vl v.cells.toList) (hav : RelC S.lk γ (.pe r e c) av) (hs : vl.length = szOf X.P t) (hp : 0 < vl.length) :
    ∃ w' γ', (Instr.storeAt t av v).run X.P w = .ok () w' ∧ Step X S γ w (peD m r { row with xs := row.xs.set e y, ow := min row.ow a.lv } a) γ' w' := by
  obtain ⟨w', hrun, hchg, hrow, hblk, hcsN, hcsE, he⟩ := pe_row hR htop hm hr ho ha hlen hy hok hap hv hav hs hp
  have hr2 := hm.r r row hr
  have hpr : ∀ r k, (r, k) ∈ a.sh → ∃ row, m.r r = some row := fun r k h => let ⟨row, h1, _⟩ := absorbs_sh ha h; ⟨row, h1⟩
  have hsn : (keys a.sh).Nodup := by
    have := hap; simp only [List.nodup_cons, List.nodup_append] at this; exact this.2.2.1
  have hrw : r ∉ keys a.mv ∧ r ∉ keys a.sh := by
    have := hap; simp only [List.nodup_cons, List.mem_append, not_or] at this; exact this.1
  have hms : ∀ k, k ∈ keys a.mv → lk a.sh k = none := by
    intro k hk
    rw [lk_none]; intro hk'
    have := hap; simp only [List.nodup_cons, List.nodup_append] at this
    exact this.2.2.2 k hk k hk' rfl
  have hmn : (keys a.mv).Nodup := by
    have := hap; simp only [List.nodup_cons, List.nodup_append] at this; exact this.2.1
  -- rows behind
  let row' : Row := { row with xs := row.xs.set e y, ow := min row.ow a.lv }
  have hr' : (S.app (peD m r row' a)).lk.r r = some row' := by rw [app_r, peD_rs hap hpr]; simp
  have hrk : ∀ k rk, k ≠ r → S.lk.r k = some rk → k ∉ keys a.mv → ∃ rk', (S.app (peD m r row' a)).lk.r k = some rk' ∧ rk'.τ = rk.τ ∧ rk'.xs.length = rk.xs.length ∧ ∀ e, rk'.cs e = rk.cs e := by
    intro k rk hne hk hnm
    rw [app_r, peD_rs hap hpr, if_neg (Ne.symm hne)]
    cases hl : lk a.sh k with
    | none => simp only [hnm, if_false]; exact ⟨rk, hk, rfl, rfl, fun _ => rfl⟩
    | some n =>
      obtain ⟨row2, h2⟩ := hpr k n (lk_mem hl)
      have h3 := hm.r k row2 h2
      rw [hk] at h3; cases h3
      simp only [h2, Option.map_some]
      exact ⟨_, rfl, rfl, rfl, fun _ => rfl⟩
  have hlkmv : ∀ k, lk (peD m r row' a).mv k = none → k ∉ keys a.mv := by
    intro k h
    have h : lk (pvs r a.mv) k = none := h
    rw [lk_pvs] at h
    rw [← lk_none]; cases h2 : lk a.mv k with
    | none => rfl
    | some p => rw [h2] at h; cases h
  refine ⟨w', peG γ r e c row vl a v.cells.toList, hrun, rows_step hR rfl hchg ?_ ?_ ?_ (fun k rk h h1 => by
    rw [peD_rs hap hpr] at h
    by_cases hkr : r = k
    · rw [if_pos hkr] at h; cases h; exact absurd h1 (own_ne1 (min_own ho (absorbs_lv ha)).2.1)
    · rw [if_neg hkr] at h
      cases hl : lk a.sh k with
      | none => rw [hl] at h; simp only at h; split at h <;> cases h
      | some n =>
        rw [hl] at h; simp only at h
        obtain ⟨row2, h2, h3⟩ := absorbs_sh ha (lk_mem hl)
        rw [h2] at h; simp only [Option.map_some, Option.some.injEq] at h; subst h
        exfalso; rcases h3 with ⟨h3, _⟩ | ⟨h3, _⟩ <;> rw [h3] at h1 <;> cases h1) (fun _ _ _ => rfl)⟩
  · refine keep_gen hR (fun k d e' c' rk h hk => ?_) (fun k rk hk hn _ => ?_) (fun k rk rk' hk hn _ _ h => ?_) (fun k hn _ _ hkn => ⟨fun rk rk' hk h => ?_⟩) (fun k cs hk _ => ?_)
    · have h : lk (pvs r a.mv) k = some (d, e', c') := h
      rw [lk_pvs] at h
      cases hl : lk a.mv k with
      | none => rw [hl] at h; cases h
      | some p =>
        obtain ⟨e1, c1⟩ := p
        rw [hl] at h; simp only [Option.map_some, Option.some.injEq, Prod.mk.injEq] at h
        obtain ⟨rfl, rfl, rfl⟩ := h
        obtain ⟨rk2, j, h1, rfl, rfl, h4, h5⟩ := absorbs_mv ha (lk_mem hl)
        have h1' := hm.r k rk2 h1
        rw [hk] at h1'; cases h1'
        have hcl := absorbs_len ha
        have hjl : j < vl.length := (List.getElem?_eq_some_iff.1 h4).1
        have hcse : (row.cs e1).length = sz row.τ := cells_length _ _
        have hcvl : (γ.cv r).length = row.xs.length * sz row.τ := (hR.rs r row hr2).top.slF.1
        have hez : (e1 + 1) * sz row.τ ≤ row.xs.length * sz row.τ := Nat.mul_le_mul_right _ he
        rw [Nat.add_mul] at hez
        obtain ⟨u, hu, hc⟩ := hv.get h4
        have hul := hv.length
        refine ⟨row', hr', by simpa [row'] using he, ?_, ?_⟩
        · show (({ row with xs := row.xs.set e1 y, ow := min row.ow a.lv } : Row).cs e1)[c + j]? = _
          rw [hcsE, repl_get_in _ _ _ _ (by omega) (by omega)]; exact h5
        · show (updN γ.cv r (Soft.repl (γ.cv r) (e1 * sz row.τ + c) v.cells.toList) r)[e1 * sz row.τ + (c + j)]? = _
          simp only [updN, if_true]
          rw [show e1 * sz row.τ + (c + j) = e1 * sz row.τ + c + j by omega, repl_get_in _ _ _ _ (by omega) (by rw [hcvl]; omega), hu, hc.2]
    · refine ⟨?_, rfl⟩
      by_cases hkr : k = r
      · subst hkr; exact ⟨_, hr'⟩
      · obtain ⟨rk', h1, _⟩ := hrk k rk hkr hk (hlkmv k hn); exact ⟨rk', h1⟩
    · by_cases hkr : k = r
      · subst hkr
        rw [hr'] at h; cases h
        rw [hr2] at hk; cases hk
        exact ⟨rfl, by simp [row']⟩
      · obtain ⟨rk2, h1, h2, h4, _⟩ := hrk k rk hkr hk (hlkmv k hn)
        rw [h] at h1; cases h1
        exact ⟨h2, by omega⟩
    · have hkr : k ≠ r := hasN1.1 hkn
      obtain ⟨rk2, h1, h2, h4, h5⟩ := hrk k rk hkr hk (hlkmv k hn)
      rw [h] at h1; cases h1
      intro e1 c1 τ ys _ hc
      exact ⟨⟨ys, by rw [h5]; exact hc, Nat.le_refl _⟩, by simp [peG, updN, hkr]⟩
    · rw [app_v]; exact ⟨⟨_, by simp [peD, Dl.z, lkZ, hk]; rfl⟩, rfl⟩
  · intro k rk h
    rw [peD_rs hap hpr] at h
    by_cases hkr : r = k
    · subst hkr
      rw [if_pos rfl] at h; cases h
      simpa [peG, updN] using hrow
    · rw [if_neg hkr] at h
      cases hl : lk a.sh k with
      | none =>
        rw [hl] at h; simp only at h
        split at h <;> cases h
      | some n =>
        rw [hl] at h; simp only at h
        obtain ⟨row2, h2, h3⟩ := absorbs_sh ha (lk_mem hl)
        rw [h2] at h; simp only [Option.map_some, Option.some.injEq] at h; subst h
        have := (peRo r e c row vl a).shared (w := w) (w' := w') (γ := γ) hap (nb := none) (by simp) htop hblk (hR.rs k row2 (hm.r k row2 h2)) (lk_mem hl) h3
        have hne : k ≠ r := Ne.symm hkr
        simpa [peG, updN, hne] using this
  · intro k rk h hk hRk
    rw [peD_rs hap hpr] at h
    rcases hRk with h1 | h1 | h1
    · have h1 : k = r := h1
      rw [if_pos h1.symm] at h; cases h
    · have h1 : k ∈ keys a.mv := h1
      by_cases hkr : r = k
      · rw [if_pos hkr] at h; cases h
      · rw [if_neg hkr, hms k h1] at h; simp [h1] at h
    · have h1 : k ∈ keys a.sh := h1
      by_cases hkr : r = k
      · rw [if_pos hkr] at h; cases h
      · rw [if_neg hkr] at h
        cases hl : lk a.sh k with
        | none => exact absurd h1 (lk_none.1 hl)
        | some n =>
          obtain ⟨row2, h2⟩ := hpr k n (lk_mem hl)
          rw [hl] at h; simp [h2] at h

theorem cells_shape {τ : Ty} (x y : El τ) {c : Nat} {σ : Ty} {ys : List (El σ)} (h : (cells τ x)[c]? = some (.l σ ys)) : ∃ ys' : List (El σ), (cells τ y)[c]? = some (.l σ ys') := by
  have key : ∀ (l l' : List Ct), l.length = l'.length → (∀ (i : Nat) (a b : Ct), l[i]? = some a → l'[i]? = some b → ∀ (σ : Ty) (ys : List (El σ)), a = Ct.l σ ys → ∃ zs : List (El σ), b = Ct.l σ zs) →
      l[c]? = some (.l σ ys) → ∃ ys' : List (El σ), l'[c]? = some (.l σ ys') := by
    intro l l' hl hk hc
    have hlt : c < l'.length := by have := (List.getElem?_eq_some_iff.1 hc).1; omega
    have hb : l'[c]? = some l'[c] := List.getElem?_eq_getElem hlt
    obtain ⟨zs, hz⟩ := hk c _ _ hc hb σ ys rfl
    exact ⟨zs, by rw [hb, hz]⟩
  refine key _ _ (by rw [cells_length, cells_length]) ?_ h
  intro i a b ha hb σ ys e
  subst e
  cases τ <;> simp only [cells] at ha hb <;>
    (repeat (rcases i with _ | i <;> first
      | (simp only [List.getElem?_cons_zero, Option.some.injEq, reduceCtorEq] at ha; done)
      | (simp only [List.getElem?_cons_zero, Option.some.injEq] at ha hb; cases ha; subst hb; exact ⟨_, rfl⟩)
      | (simp only [List.getElem?_cons_succ, List.getElem?_nil, reduceCtorEq] at ha; done)
      | simp only [List.getElem?_cons_succ] at ha hb))

theorem allFlat_abs : ∀ {vl : List Cv} {e c : Nat} {a : Abs}, allFlat vl = true → m.absorbs e c vl = some a → a.mv = [] ∧ a.sh = [] ∧ a.lv = 5 ∧ ∀ (j : Nat) (σ : Ty) (ys : List (El σ)), a.cts[j]? ≠ some (.l σ ys)
  | [], e, c, a, _, h => by simp only [Lk.absorbs, Option.some.injEq] at h; subst h; simp
  | x :: vl, e, c, a, hf, h => by
    have hx : ∃ ct, m.absorb x = some ⟨ct, none, none, 5⟩ ∧ (∀ (σ : Ty) (ys : List (El σ)), ct ≠ .l σ ys) ∧ allFlat vl = true := by
      cases x <;> simp only [allFlat] at hf <;> first | (cases hf; done) | exact ⟨_, rfl, by simp, hf⟩
    obtain ⟨ct, h1, hct, hf⟩ := hx
    simp only [Lk.absorbs, h1] at h
    cases h2 : m.absorbs e (c + 1) vl with
    | none => simp [h2] at h
    | some a2 =>
      simp only [h2, Option.some.injEq] at h; subst h
      obtain ⟨i1, i2, i3, i4⟩ := allFlat_abs hf h2
      refine ⟨i1, i2, by simp [i3], fun j σ ys => ?_⟩
      cases j with
      | zero => simp; exact hct σ ys
      | succ j => simpa using i4 j σ ys

def pfD (r : Nat) (row' : Row) : Dl := { Dl.z with rs := [(r, some row')] }
theorem pf_r (S : St) (r : Nat) (row' : Row) (k : Nat) : (S.app (pfD r row')).lk.r k = if r = k then some row' else S.lk.r k := by
  rw [app_r]
  show (match (if r = k then some (some row') else none) with | some r => r | none => _) = _
  by_cases h : r = k <;> simp [h]

theorem pf_v (S : St) (r : Nat) (row' : Row) (k : Nat) : (S.app (pfD r row')).lk.v k = (S.lk.v k).map (List.map (pfD r row').map) := by rw [app_v]; rfl

theorem pf_step (hR : Rel X S.lk γ w) (htop : ∀ g, w.heap.size ≤ g → γ.O g = none) (hm : Le m S.lk) {r e c : Nat} {row : Row} {vl : List Cv} {a : Abs} {y : El row.τ} {av v : Value} {t : TypeId}
    (hr : m.r r = some row) (ho : ownK row.ow = true) (hfl : allFlat vl = true) (ha : m.absorbs e c vl = some a) (hlen : c + vl.length ≤ sz row.τ) (hy : mkEl row.τ (Soft.repl (row.cs e) c a.cts) = some y)
    (hok : okEl row.τ a.cts = true) (hv : RelL S.lk γ vl v.cells.toList) (hav : RelC S.lk γ (.pe r e c) av) (hs : vl.length = szOf X.P t) (hp : 0 < vl.length) :
    ∃ w' γ', (Instr.storeAt t av v).run X.P w = .ok () w' ∧ Step X S γ w (pfD r { row with xs := row.xs.set e y }) γ' w' := by
  obtain ⟨fmv, fsh, flv, fct⟩ := allFlat_abs hfl ha
  have hap : (peRo r e c row vl a).apart := by simp [Ro.apart, peRo, fmv, fsh, keys]
  obtain ⟨w', hrun, hchg, hrow, hblk, hcsN, hcsE, he⟩ := pe_row hR htop hm hr ho ha hlen hy hok hap hv hav hs hp
  have hr2 := hm.r r row hr
  have hmin : min row.ow a.lv = row.ow := by rw [flv]; rcases ownK_cases ho with h | h | h <;> rw [h] <;> rfl
  rw [hmin] at hrow hcsN hcsE
  have hR' : ∀ k, (peRo r e c row vl a).R k ↔ k = r := by intro k; simp [Ro.R, peRo, fmv, fsh, keys]
  have hul := hv.length
  have hcl := absorbs_len ha
  have hcse : (row.cs e).length = sz row.τ := cells_length _ _
  have hcvl : (γ.cv r).length = row.xs.length * sz row.τ := (hR.rs r row hr2).top.slF.1
  have hez : (e + 1) * sz row.τ ≤ row.xs.length * sz row.τ := Nat.mul_le_mul_right _ he
  rw [Nat.add_mul] at hez
  refine ⟨w', peG γ r e c row vl a v.cells.toList, hrun, rows_step hR rfl hchg ?_ ?_ ?_ (one_k1 (own_ne1 ho)) (fun _ _ _ => rfl)⟩
  · refine keep_of hR rfl (fun k rk hk _ => ⟨?_, rfl⟩) (fun k rk rk' hk _ _ h => ?_) (fun k _ _ _ => ⟨fun rk rk' hk h => ?_⟩) (fun k cs hk _ => ⟨⟨_, by rw [pf_v, hk]; rfl⟩, rfl⟩)
    · rw [pf_r]; by_cases h : r = k
      · exact ⟨_, if_pos h⟩
      · exact ⟨rk, by rw [if_neg h]; exact hk⟩
    · rw [pf_r] at h
      by_cases hk2 : r = k
      · subst hk2; rw [if_pos rfl] at h; cases h
        rw [hr2] at hk; cases hk
        exact ⟨rfl, by simp⟩
      · rw [if_neg hk2, hk] at h; cases h; exact ⟨rfl, Nat.le_refl _⟩
    · rw [pf_r] at h
      by_cases hk2 : r = k
      · subst hk2; rw [if_pos rfl] at h; cases h
        rw [hr2] at hk; cases hk
        intro e1 c1 τ ys he1 hc
        have hc1 : c1 < sz row.τ := by have := (List.getElem?_eq_some_iff.1 hc).1; rw [row_cs, cells_length] at this; exact this
        have hcv : (peG γ r e c row vl a v.cells.toList).cv r = Soft.repl (γ.cv r) (e * sz row.τ + c) v.cells.toList := by simp [peG, updN]
        rw [hcv]
        by_cases hee : e1 = e
        · subst hee
          have hout : c1 < c ∨ c + vl.length ≤ c1 := by
            rcases Nat.lt_or_ge c1 c with h | h
            · exact .inl h
            · rcases Nat.lt_or_ge c1 (c + vl.length) with h2 | h2
              · exfalso
                obtain ⟨j, rfl⟩ : ∃ j, c1 = c + j := ⟨c1 - c, by omega⟩
                obtain ⟨ys', hy'⟩ := cells_shape _ y hc
                have h3 := hcsE
                simp only [Row.cs] at h3
                rw [show (row.xs.set e1 y).getD e1 (dflt row.τ) = y by simp [List.getD, he]] at h3
                rw [h3, repl_get_in _ _ _ _ (by omega) (by rw [cells_length]; omega)] at hy'
                exact fct j τ ys' hy'
              · exact .inr h2
          rw [hcsE]
          refine ⟨⟨ys, ?_, Nat.le_refl _⟩, ?_⟩
          · rcases hout with h | h
            · rw [repl_get_lt _ _ _ _ h (by omega)]; exact hc
            · rw [repl_get_ge _ _ _ _ (by omega) (by omega)]; exact hc
          · rcases hout with h | h
            · rw [repl_get_lt _ _ _ _ (by omega) (by rw [hcvl]; omega)]
            · rw [repl_get_ge _ _ _ _ (by omega) (by rw [hcvl]; omega)]
        · rw [hcsN e1 hee]
          refine ⟨⟨ys, hc, Nat.le_refl _⟩, ?_⟩
          rcases Nat.lt_or_gt_of_ne hee with h | h
          · have h3 : (e1 + 1) * sz row.τ ≤ e * sz row.τ := Nat.mul_le_mul_right _ h
            rw [Nat.add_mul] at h3
            rw [repl_get_lt _ _ _ _ (by omega) (by rw [hcvl]; omega)]
          · have h3 : (e + 1) * sz row.τ ≤ e1 * sz row.τ := Nat.mul_le_mul_right _ h
            rw [Nat.add_mul] at h3
            rw [repl_get_ge _ _ _ _ (by omega) (by rw [hcvl]; omega)]
      · rw [if_neg hk2, hk] at h; cases h
        intro e1 c1 τ ys _ hc
        exact ⟨⟨ys, hc, Nat.le_refl _⟩, by simp [peG, updN, Ne.symm hk2]⟩
  · intro k rk h
    have h : (if r = k then some (some _) else none) = some (some rk) := h
    by_cases hk : r = k
    · subst hk; rw [if_pos rfl] at h; cases h
      simpa [peG, updN] using hrow
    · rw [if_neg hk] at h; cases h
  · intro k rk h _ hRk
    have h : (if r = k then some (some _) else none) = none := h
    rw [(hR' k).1 hRk] at h
    simp at h

end Go.Soft
