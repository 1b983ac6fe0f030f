/-
  SoftL: the step of a slice literal.
-/
import Derived.Test.YtlcebcpciagogaaSoftK
set_option linter.constructorNameAsVariable false
set_option linter.unusedSimpArgs false
set_option linter.unusedVariables false
namespace Go.Soft
open Go
variable {X : Ctx} {m M : Lk} {γ γ' : Gh} {w w' : World} {ρ : Operand → Value} {S : St} {δ : Dl}

def liD (m : Lk) (key : Nat) (row : Row) (mv : List (Nat × (Nat × Nat))) (sh : List (Nat × Nat)) : Dl := { Dl.z with kr := key :: keys mv, rs := gone mv ++ (m.share sh ++ [(key, some row)]) }
theorem liD_rs {key : Nat} {row : Row} {mv : List (Nat × (Nat × Nat))} {sh : List (Nat × Nat)} (hap : (key :: (keys mv ++ keys sh)).Nodup) (hp : ∀ r k, (r, k) ∈ sh → ∃ row, m.r r = some row) (k : Nat) :
    lkZ (liD m key row mv sh).rs k = if key = k then some (some row) else match lk sh k with
      | some n => (m.r k).map (fun row => some { row with ow := n })
      | none => if k ∈ keys mv then some none else none :=
  peD_rs (m := m) (r := key) (row' := row) (a := ⟨[], mv, sh, 5⟩) hap hp k

theorem li_step (hR : Rel X S.lk γ w) (htop : ∀ g, w.heap.size ≤ g → γ.O g = none) (hm : Le m S.lk) {a : Ro} {row : Row} {v : Value} {cs : List Value} {nb : Option Nat} (hap : a.apart)
    (hsh : ∀ r k, (r, k) ∈ a.sh → ∃ row, m.r r = some row ∧ ((k = 3 ∧ leK 4 row.ow = true) ∨ (k = 4 ∧ row.ow = 5))) (hn : ∀ g, some g = nb → w.heap.size ≤ g ∧ g < w'.heap.size)
    (hos : w'.os = w.os) (htp : w'.tape = w.tape) (hout : w'.output = w.output) (hsz : w.heap.size ≤ w'.heap.size) (hb : ∀ g, g < w.heap.size → w'.heap[g]? = w.heap[g]?)
    (hrow : RowR X (a.O γ.O nb) w' a.key row v cs) (hon : ownK row.ow = true) (hkey : a.key < 100000) :
    let γ' : Gh := { γ with O := a.O γ.O nb, rv := updN γ.rv a.key v, cv := updN γ.cv a.key cs }
    Step X S γ w (liD m a.key row a.mv a.sh) γ' w' ∧ RelC (S.app (liD m a.key row a.mv a.sh)).lk γ' (.sw a.key) v := by
  intro γ'
  have hpr : ∀ r k, (r, k) ∈ a.sh → ∃ row, m.r r = some row := fun r k h => let ⟨row, h1, _⟩ := hsh r k h; ⟨row, h1⟩
  have hchg : Chg a.R γ w γ' w' := a.chg htop hos htp hout hsz hn (fun g hg _ => hb g hg) (fun r hr => by simp [updN, hr])
  have hms : ∀ k, k ∈ keys a.mv → lk a.sh k = none := by
    intro k hk
    rw [lk_none]; intro hk'
    have := hap; simp only [Ro.apart, List.nodup_cons, List.nodup_append] at this
    exact this.2.2.2 k hk k hk' rfl
  have hnew : (S.app (liD m a.key row a.mv a.sh)).lk.r a.key = some row := by rw [app_r, liD_rs hap hpr]; simp
  have hrk : ∀ k rk, hasN k (liD m a.key row a.mv a.sh).kr = false → S.lk.r k = some rk → k ≠ a.key ∧
      ∃ rk', (S.app (liD m a.key row a.mv a.sh)).lk.r k = some rk' ∧ rk'.τ = rk.τ ∧ rk'.xs.length = rk.xs.length ∧ ∀ e, rk'.cs e = rk.cs e := by
    intro k rk hk hrk
    have hk : ¬ k ∈ a.key :: keys a.mv := fun h => by rw [← hasN_iff] at h; have hk : hasN k (a.key :: keys a.mv) = false := hk; rw [h] at hk; cases hk
    simp only [List.mem_cons, not_or] at hk
    refine ⟨hk.1, ?_⟩
    rw [app_r, liD_rs hap hpr, if_neg (Ne.symm hk.1)]
    cases hl : lk a.sh k with
    | none => simp only [hk.2, if_false]; exact ⟨rk, hrk, rfl, rfl, fun _ => rfl⟩
    | some n =>
      obtain ⟨row2, h2⟩ := hpr k n (lk_mem hl)
      have h3 := hm.r k row2 h2
      rw [hrk] at h3; cases h3
      simp only [h2, Option.map_some]
      exact ⟨_, rfl, rfl, rfl, fun _ => rfl⟩
  refine ⟨rows_step hR rfl hchg ?_ ?_ ?_ (fun k rk h h1 => by
    rw [liD_rs hap hpr] at h
    by_cases hkr : a.key = k
    · rw [if_pos hkr] at h; cases h; exact absurd h1 (own_ne1 hon)
    · rw [if_neg hkr] at h
      cases hl : lk a.sh k with
      | none => rw [hl] at h; simp only at h; split at h <;> cases h
      | some n =>
        rw [hl] at h; simp only at h
        obtain ⟨row2, h2, h3⟩ := hsh k n (lk_mem hl)
        rw [h2] at h; simp only [Option.map_some, Option.some.injEq] at h; subst h
        exfalso; rcases h3 with ⟨h3, _⟩ | ⟨h3, _⟩ <;> rw [h3] at h1 <;> cases h1) (fun k h1 _ => by simp [γ', updN, show k ≠ a.key by omega]), ⟨row, hnew⟩, by simp [γ', updN]⟩
  · refine keep_of hR rfl (fun k rk hk hkr => ?_) (fun k rk rk' hk hkr _ h => ?_) (fun k hkr _ _ => ⟨fun rk rk' hk h => ?_⟩) (fun k c hk _ => ⟨?_, rfl⟩)
    · obtain ⟨hne, rk', h1, _⟩ := hrk k rk hkr hk
      exact ⟨⟨rk', h1⟩, by simp [γ', updN, hne]⟩
    · obtain ⟨hne, rk2, h1, h2, h3, _⟩ := hrk k rk hkr hk
      rw [h] at h1; cases h1
      exact ⟨h2, by omega⟩
    · obtain ⟨hne, rk2, h1, h2, h3, h4⟩ := hrk k rk hkr hk
      rw [h] at h1; cases h1
      intro e c τ ys _ hc
      exact ⟨⟨ys, by rw [h4]; exact hc, Nat.le_refl _⟩, by simp [γ', updN, hne]⟩
    · rw [app_v]; exact ⟨_, by simp [liD, Dl.z, lkZ, hk]; rfl⟩
  · intro k rk h
    rw [liD_rs hap hpr] at h
    by_cases hkr : a.key = k
    · subst hkr
      rw [if_pos rfl] at h; cases h
      simpa [γ', updN] using hrow
    · rw [if_neg hkr] at h
      cases hl : lk a.sh k with
      | none =>
        rw [hl] at h; simp only at h
        split at h <;> cases h
      | some n =>
        rw [hl] at h; simp only at h
        obtain ⟨row2, h2, h3⟩ := hsh k n (lk_mem hl)
        rw [h2] at h; simp only [Option.map_some, Option.some.injEq] at h; subst h
        have := a.shared (w := w) (w' := w') (γ := γ) hap (nb := nb) (fun g h => (hn g h).1) htop (fun g hg _ => hb g hg) (hR.rs k row2 (hm.r k row2 h2)) (lk_mem hl) h3
        simpa [γ', updN, Ne.symm hkr] using this
  · intro k rk h hk hRk
    rw [liD_rs hap hpr] at h
    by_cases hkr : a.key = k
    · rw [if_pos hkr] at h; cases h
    · rw [if_neg hkr] at h
      rcases hRk with h1 | h1 | h1
      · exact hkr h1.symm
      · rw [hms k h1] at h; simp [h1] at h
      · cases hl : lk a.sh k with
        | none => exact absurd h1 (lk_none.1 hl)
        | some n =>
          obtain ⟨row2, h2⟩ := hpr k n (lk_mem hl)
          rw [hl] at h; simp [h2] at h

theorem parts_ok (hR : Rel X S.lk γ w) {f : Operand → AV} (hf : ∀ o, RelA S.lk γ (f o) (ρ o)) {z : Nat} : ∀ (parts : List (Nat × Operand)) (n : Nat) (pss : List (List Cv)), partsOf f z n parts = some pss →
    RelLL S.lk γ pss (parts.map fun p => (ρ p.2).cells.toList) ∧ ∀ (j : Nat) (p : Nat × Operand), parts[j]? = some p → p.1 = n + j ∧ (ρ p.2).cells.size = z
  | [], n, pss, h => by simp only [partsOf, Option.some.injEq] at h; subst h; exact ⟨.nil, by simp⟩
  | (i, o) :: parts, n, pss, h => by
    simp only [partsOf] at h
    revert h; split
    · rename_i cs r hi hc hr
      split
      · rename_i hz
        intro h; cases h
        obtain ⟨h1, h2⟩ := parts_ok hR hf parts (n + 1) r hr
        have hrel := cells_ok hR (hf o) hc
        have hin := nat_beq hi
        have hlen := nat_beq hz
        have hsz : (ρ o).cells.size = z := by have := hrel.length; simp at this; omega
        refine ⟨.cons hrel h1, fun j p hj => ?_⟩
        cases j with
        | zero => simp at hj; subst hj; exact ⟨by simpa using hin, hsz⟩
        | succ j => obtain ⟨h3, h4⟩ := h2 j p (by simpa using hj); exact ⟨by omega, h4⟩
      · intro h; cases h
    · intro h; cases h

theorem flatten_map {α : Type} (l : List (Nat × Value)) : (l.map fun p => p.2.cells.toList).flatten = l.flatMap fun p => p.2.cells.toList := by simp [List.flatMap]

theorem lit_step (hX : CtxOk X) (hR : Rel X S.lk γ w) (htop : ∀ g, w.heap.size ≤ g → γ.O g = none) (hm : Le m S.lk) {t : TypeId} {τ : Ty} (ht : X.elOwn t = some τ) {n key : Nat} {parts : Array (Nat × Operand)} {f : Operand → AV}
    (hf : ∀ o, RelA S.lk γ (f o) (ρ o)) (hn : parts.size = n) (hsm : n * sz τ ≤ 2 ^ 24) {pss : List (List Cv)} (hp : partsOf f (sz τ) 0 parts.toList = some pss) {b : Els τ} (hb : m.newEls τ 0 pss = some b)
    (hap : (key :: (keys b.mv ++ keys b.sh)).Nodup) (hok : τ.isByte = true → b.ok = true) (hkey : key < 100000) :
    ∃ v w' γ', (Instr.buildSlice t n (parts.map fun (i, x) => (i, ρ x))).run X.P w = .ok v w' ∧ Step X S γ w (liD m key ⟨τ, b.ys, b.lv⟩ b.mv b.sh) γ' w' ∧
      RelC (S.app (liD m key ⟨τ, b.ys, b.lv⟩ b.mv b.sh)).lk γ' (.sw key) v := by
  obtain ⟨hu, hlk⟩ := elOwn_inv ht
  obtain ⟨i, z, hi, hz, hs, _, _, _⟩ := own_info hX ht
  obtain ⟨hrel, hpp⟩ := parts_ok hR hf parts.toList 0 pss hp
  let ps : Array (Nat × Value) := parts.map fun (i, x) => (i, ρ x)
  have hps : ps.toList = parts.toList.map fun p => (p.1, ρ p.2) := by simp [ps]
  have hrun := lit_run (w := w) (P := X.P) (parts := ps) hu hi hz hs (sz_pos τ) hsm (by simp [ps, hn]) (fun j p hj => by
    rw [hps, List.getElem?_map] at hj
    cases hq : parts.toList[j]? with
    | none => rw [hq] at hj; cases hj
    | some q =>
      rw [hq] at hj; simp only [Option.map_some, Option.some.injEq] at hj; subst hj
      obtain ⟨h1, h2⟩ := hpp j q hq
      exact ⟨by simpa using h1, h2⟩)
  have how := newEls_lv hb
  have hown : ownK b.lv = true := by rcases how with h | h | h <;> rw [h] <;> rfl
  let a : Ro := ⟨key, b.lv, false, fun _ _ => true, b.mv, b.sh⟩
  let vss := parts.toList.map fun p => (ρ p.2).cells.toList
  have hflat : (ps.toList.flatMap fun p => p.2.cells.toList) = vss.flatten := by
    rw [hps]; simp only [List.flatMap, List.map_map]; rfl
  have habs := a.absO (M := S.lk) hap how (w := w) (w' := w.alloc (.cells (ps.toList.flatMap fun p => p.2.cells.toList).toArray (X.id τ))) (γ := γ) (nb := some w.heap.size) (fun g h => by cases h; exact Nat.le_refl _) htop
    (xs := pss.flatten) (fun g o hg _ => by rw [heap_alloc_old w _ g (lt_of_some hg)]; exact hg)
  obtain ⟨e1, e2, e3, e4⟩ := newEls_ok hm hR (key := key) how pss vss 0 b hrel hb (Nat.le_refl _) hok habs
  have hpl : pss.length = n := by rw [← e3]; simp [vss, hn]
  have hvl : vss.flatten.length = n * sz τ := by
    have : ∀ (l : List (List Value)), (∀ (j : Nat) (vs : List Value), l[j]? = some vs → vs.length = sz τ) → l.flatten.length = l.length * sz τ := by
      intro l
      induction l with
      | nil => simp
      | cons x l ih =>
        intro h
        have h0 := h 0 x rfl
        have := ih (fun j vs hj => h (j + 1) vs (by simpa using hj))
        simp only [List.flatten_cons, List.length_append, List.length_cons, Nat.add_mul, this, h0]; omega
    rw [this vss e2]; simp [vss, hn]
  refine ⟨_, _, _, hrun, li_step (a := a) (row := ⟨τ, b.ys, b.lv⟩) (v := .slice (some ⟨w.heap.size, 0, none⟩) n n) (cs := vss.flatten) (nb := some w.heap.size) hR htop hm hap (fun r k h => newEls_sh hb h)
    (fun g h => by cases h; exact ⟨Nat.le_refl _, by simp⟩) rfl rfl rfl (by simp) (fun g hg => heap_alloc_old w _ g hg) ?_ hown hkey⟩
  refine ⟨?_, fun e c ct he hct => ?_⟩
  · have : topC key b.lv = .own (.r key) := by simp [topC, hown]
    show Sl X _ _ (topC key b.lv) τ _ b.ys.length _
    rw [this, e1, hpl]
    refine ⟨⟨hvl, .inr ⟨w.heap.size, n, _, rfl, Nat.zero_le _, heap_alloc_new w _, Nat.le_refl _, ?_, by rw [hflat]; simp [hvl], ?_⟩⟩, fun g hg => ?_⟩
    · have := sz_pos τ
      have h1 : n * 1 ≤ n * sz τ := Nat.mul_le_mul_left _ this
      simp only [maxLen]; omega
    · rw [hflat, List.toList_toArray, ← hvl, List.take_length]
    · have : w.heap.size = g := by simpa [Value.ownBlock] using hg
      simp [Ro.O, this, a]
  · have he' : e < pss.length := by rw [← e1]; exact he
    obtain ⟨u, hu', hcell⟩ := e4 e c ct he' hct
    exact ⟨u, hu', by simpa using hcell⟩

end Go.Soft
