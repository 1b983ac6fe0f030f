/-
  SoftJ: clear.
-/
import Derived.Test.YtlcebcpciagogaaSoftI
set_option linter.constructorNameAsVariable false
set_option linter.unusedSimpArgs false
set_option linter.unusedVariables false
namespace Go.Soft
open Go
variable {X : Ctx} {m M : Lk} {γ γ' : Gh} {w w' : World} {ρ : Operand → Value} {S : St} {δ : Dl}

def clrXs {τ : Ty} (xs : List (El τ)) (off len : Nat) : List (El τ) := xs.take off ++ (List.replicate len (dflt τ) ++ xs.drop (off + len))
theorem clr_length {τ : Ty} (xs : List (El τ)) {off len : Nat} (h : off + len ≤ xs.length) : (clrXs xs off len).length = xs.length := by simp [clrXs]; omega
theorem clr_getD {τ : Ty} (xs : List (El τ)) {off len : Nat} (h : off + len ≤ xs.length) (e : Nat) :
    (clrXs xs off len).getD e (dflt τ) = if off ≤ e ∧ e < off + len then dflt τ else xs.getD e (dflt τ) := by
  simp only [clrXs, List.getD, List.getElem?_append, List.length_take, List.length_replicate, List.getElem?_take, List.getElem?_replicate, List.getElem?_drop]
  have h1 : min off xs.length = off := by omega
  rw [h1]
  by_cases h2 : e < off
  · simp [h2, show ¬ (off ≤ e ∧ e < off + len) by omega]
  · by_cases h3 : e < off + len
    · simp [h2, show e - off < len by omega, show off ≤ e ∧ e < off + len by omega]
    · simp [h2, show ¬ e - off < len by omega, show ¬ (off ≤ e ∧ e < off + len) by omega, show off + len + (e - off - len) = e by omega]

theorem zeroCells_eq (z : Array Value) (n : Nat) : Builtin.zeroCells z n = madeCells z (n * z.size) := rfl

def clD (r : Nat) (row' : Row) : Dl := { Dl.z with kn := [r], rs := [(r, some row')] }
theorem cl_r (S : St) (r : Nat) (row' : Row) (k : Nat) : (S.app (clD r row')).lk.r k = if r = k then some row' else S.lk.r k := by
  rw [app_r]
  show (match (if r = k then some (some row') else none) with | some r => r | none => _) = _
  by_cases h : r = k <;> simp [h]
theorem cl_v (S : St) (r : Nat) (row' : Row) (k : Nat) : (S.app (clD r row')).lk.v k = (S.lk.v k).map (List.map (clD r row').map) := by rw [app_v]; rfl

/-- a row with new contents, in its place -/
theorem inplace_step (hR : Rel X S.lk γ w) {r : Nat} {row row' : Row} (hr : S.lk.r r = some row) (hτ : row'.τ = row.τ) (hl : row.xs.length ≤ row'.xs.length) (hn1 : row'.ow ≠ 1) {cv' : List Value} {O' : OM}
    (hchg : Chg (· = r) γ w { γ with O := O', cv := updN γ.cv r cv' } w') (hrow : RowR X O' w' r row' (γ.rv r) cv') : Step X S γ w (clD r row') { γ with O := O', cv := updN γ.cv r cv' } w' := by
  refine rows_step hR rfl hchg ?_ ?_ ?_ (one_k1 hn1) (fun _ _ _ => rfl)
  · refine keep_of hR rfl (fun j rk hj _ => ⟨?_, rfl⟩) (fun j rk rk' hj _ _ h => ?_) (fun j _ _ hjn => ⟨fun rk rk' hj h => ?_⟩) (fun j cs hj _ => ⟨⟨_, by rw [cl_v, hj]; rfl⟩, rfl⟩)
    · rw [cl_r]; by_cases h : r = j
      · exact ⟨_, if_pos h⟩
      · exact ⟨rk, by rw [if_neg h]; exact hj⟩
    · rw [cl_r] at h
      by_cases hk2 : r = j
      · subst hk2; rw [if_pos rfl] at h; cases h
        rw [hr] at hj; cases hj
        exact ⟨hτ, hl⟩
      · rw [if_neg hk2, hj] at h; cases h; exact ⟨rfl, Nat.le_refl _⟩
    · have hk2 : ¬ r = j := Ne.symm (hasN1.1 hjn)
      rw [cl_r, if_neg hk2, hj] at h; cases h
      intro e1 c1 σ zs _ hc1
      exact ⟨⟨zs, hc1, Nat.le_refl _⟩, by simp [updN, Ne.symm hk2]⟩
  · intro j rk h
    have h : (if r = j then some (some row') else none) = some (some rk) := h
    by_cases hj : r = j
    · subst hj; rw [if_pos rfl] at h; cases h; simpa [updN] using hrow
    · rw [if_neg hj] at h; cases h
  · intro j rk h _ hj
    have h : (if r = j then some (some row') else none) = none := h
    rw [if_pos hj.symm] at h; cases h

theorem clear_run {P : Program} {t e : TypeId} {i : TypeInfo} {z : Value} (hu : P.underlying t = some (.slice e)) (hi : P.info? e = some i) (hz : i.zero = some z) {g o n cap : Nat} {cur : Array Value} {e' : TypeId}
    (hg : w.heap[g]? = some (.cells cur e' (0, 0))) (hle : o + n * z.cells.size ≤ cur.size) (h1 : ∀ u ∈ (madeCells z.cells (n * z.cells.size)).toList, u.oneCell' = true) (hn : 0 < n) (ty : TypeId) :
    (Builtin.clear_ #[t] ty #[.slice (some ⟨g, o, none⟩) n cap]).run P w = .ok (.tuple #[]) (w.setRow g (Soft.repl cur.toList o (madeCells z.cells (n * z.cells.size)).toList).toArray) := by
  have hst := run_storeCells_at (P := P) g o e' (madeCells z.cells (n * z.cells.size)).toList 0 cur w hg (by simp [size_madeCells]; omega) h1
  rw [Nat.add_zero] at hst
  cases n with
  | zero => omega
  | succ n =>
    simp only [Builtin.clear_, Sem.run_bind, run_underlying hu, Result.andThen_ok, zeroValue, run_info hi, hz, Sem.run_pure, zeroCells_eq, hst]
    simp [Soft.repl, run_underlying hu, zeroValue, run_info hi, hz, zeroCells_eq, hst]

theorem zero_one {τ : Ty} : ∀ u ∈ (cells τ (dflt τ)).map ctVal, u.oneCell' = true := by
  intro u hu
  obtain ⟨ct, _, rfl⟩ := List.mem_map.1 hu
  cases ct <;> rfl

theorem clear_step (hX : CtxOk X) (hR : Rel X S.lk γ w) (htop : ∀ g, w.heap.size ≤ g → γ.O g = none) (hm : Le m S.lk) {t : TypeId} {r off len : Nat} {xv : Value} {v : AV} {δ : Dl} (hx : RelC S.lk γ (.sl r off len) xv)
    (h : X.clearO m t (.c (.sl r off len)) = .w0 v δ) (ty : TypeId) :
    v = u8 ∧ ∃ w' γ', (Builtin.clear_ #[t] ty #[xv]).run X.P w = .ok (.tuple #[]) w' ∧ Step X S γ w δ γ' w' := by
  simp only [Ctx.clearO] at h
  cases ht : X.elOwn t with
  | none => simp [ht] at h
  | some τ =>
    cases hr : m.r r with
    | none => simp [ht, hr] at h
    | some row =>
      simp only [ht, hr] at h
      have hr2 := hm.r r row hr
      cases h1 : ownK row.ow && tEq row.τ τ with
      | false => simp [h1] at h
      | true =>
        cases h2 : row.τ.deep && Nat.beq row.ow 5 with
        | true => simp [h1, h2] at h
        | false =>
          simp only [h1, h2, Out.w0.injEq] at h
          obtain ⟨rfl, rfl⟩ := h
          simp only [Bool.and_eq_true] at h1
          obtain ⟨ho, hτ⟩ := h1
          have hτ := tEq_eq hτ
          subst hτ
          refine ⟨rfl, ?_⟩
          obtain ⟨hu, hlk⟩ := elOwn_inv ht
          obtain ⟨i, z, hi, hz, hs, hb, hc, hzs⟩ := own_info hX ht
          obtain ⟨row', hr', hle, hsub⟩ := hx
          rw [hr2] at hr'; cases hr'
          have hrow := hR.rs r row hr2
          have htopO : topC r row.ow = .own (.r r) := by simp [topC, ho]
          have hfl : row.ow = 5 → row.τ.deep = false := by
            intro h5; rw [h5] at h2; cases hd : row.τ.deep with
            | false => rfl
            | true => rw [hd] at h2; cases h2
          show ∃ w' γ', _ ∧ Step X S γ w (clD r { row with xs := clrXs row.xs off len }) γ' w'
          -- the new row, whatever its cells are
          have same : ∀ (cv' : List Value) (O' : OM) (w' : World), Chg (· = r) γ w { γ with O := O', cv := updN γ.cv r cv' } w' → RowR X O' w' r { row with xs := clrXs row.xs off len } (γ.rv r) cv' →
              Step X S γ w (clD r { row with xs := clrXs row.xs off len }) { γ with O := O', cv := updN γ.cv r cv' } w' := fun cv' O' w' hchg hnew =>
            inplace_step (row' := { row with xs := clrXs row.xs off len }) hR hr2 rfl (by show row.xs.length ≤ (clrXs row.xs off len).length; rw [clr_length _ hle]; exact Nat.le_refl _) (own_ne1 ho) hchg hnew
          by_cases hlen : len = 0
          · subst hlen
            have hclr : clrXs row.xs off 0 = row.xs := by simp [clrXs]
            refine ⟨w, _, ?_, same (γ.cv r) γ.O w ⟨rfl, rfl, rfl, Nat.le_refl _, fun _ _ _ => ⟨rfl, rfl⟩, htop, rfl, fun j hj => by simp [updN, hj]⟩ (by rw [hclr]; exact hrow)⟩
            rcases hsub with ⟨_, rfl, _⟩ | ⟨g, o, n', cap, o', cap', _, rfl, _⟩
            · simp [Builtin.clear_, run_underlying hu]
            · simp [Builtin.clear_, run_underlying hu]
          · rcases hsub with ⟨_, _, h0⟩ | ⟨g, o, n', cap, o', cap', hb', rfl, _, _, _, h0⟩
            · exact absurd h0 hlen
            have ho' : o' = o + off * sz row.τ := h0.resolve_left hlen
            have htp := hrow.top
            rw [htopO] at htp
            obtain ⟨hown, howner⟩ := htp
            rcases hown.2 with ⟨h3, _⟩ | ⟨g1, cap1, cur, h3, _, hg, hnc, hcm, hcs, htk⟩
            · rw [h3] at hb'; cases hb'
            have hgo : g1 = g ∧ 0 = o := by
              rw [h3] at hb'; injection hb' with h _ _; injection h with h; injection h with h2 h3 _; exact ⟨h2, h3⟩
            obtain ⟨rfl, rfl⟩ := hgo
            subst ho'
            have hcz : row.xs.length * sz row.τ ≤ cur.size := by rw [hcs]; exact Nat.mul_le_mul_right _ hnc
            have hlz : (off + len) * sz row.τ ≤ row.xs.length * sz row.τ := Nat.mul_le_mul_right _ hle
            rw [Nat.add_mul] at hlz
            have hmade : ∀ e c, e < len → c < sz row.τ → (madeCells z.cells (len * z.cells.size)).toList[e * sz row.τ + c]? = ((cells row.τ (dflt row.τ))[c]?).map ctVal := by
              intro e c he hc'
              rw [hzs, made_get hzs (sz_pos _) he hc', hc, List.getElem?_map]
            have hone : ∀ u ∈ (madeCells z.cells (len * z.cells.size)).toList, u.oneCell' = true := by
              intro u hu'
              obtain ⟨j, hj⟩ := List.mem_iff_getElem?.1 hu'
              have hjl : j < len * sz row.τ := by
                have := (List.getElem?_eq_some_iff.1 hj).1; simpa [size_madeCells, hzs] using this
              have hq : j / sz row.τ < len := Nat.div_lt_of_lt_mul (by rwa [Nat.mul_comm])
              have hm' : j % sz row.τ < sz row.τ := Nat.mod_lt _ (sz_pos _)
              have he : j / sz row.τ * sz row.τ + j % sz row.τ = j := by rw [Nat.mul_comm]; exact Nat.div_add_mod j _
              have := hmade _ _ hq hm'
              rw [he, hj] at this
              cases hct : (cells row.τ (dflt row.τ))[j % sz row.τ]? with
              | none => rw [hct] at this; cases this
              | some ct =>
                rw [hct] at this; simp only [Option.map_some, Option.some.injEq] at this
                rw [this]; exact zero_one _ (List.mem_map_of_mem (List.mem_of_getElem? hct))
            have hrun := clear_run (w := w) (cap := cap') hu hi hz (g := g1) (o := 0 + off * sz row.τ) (n := len) hg (by rw [hzs]; omega) hone (by omega) ty
            have hml : (madeCells z.cells (len * z.cells.size)).toList.length = len * sz row.τ := by simp [size_madeCells, hzs]
            have hOg : γ.O g1 = some (.r r) := howner g1 (by rw [h3]; rfl)
            refine ⟨_, _, hrun, same (Soft.repl (γ.cv r) (off * sz row.τ) (madeCells z.cells (len * z.cells.size)).toList) γ.O _ ?_ ?_⟩
            · exact ⟨rfl, rfl, rfl, by simp, fun g hg' hne => ⟨set_other w _ _ g (fun h => by have := (hne r rfl).1; rw [h, hOg] at this; exact this rfl), rfl⟩,
                fun g hg' => htop g (by simpa using hg'), rfl, fun j hj => by simp [updN, hj]⟩
            · have hcvl : (γ.cv r).length = row.xs.length * sz row.τ := hown.1
              refine ⟨?_, fun e c ct he hct => ?_⟩
              · show Sl X γ.O _ (topC r row.ow) row.τ _ (clrXs row.xs off len).length _
                rw [clr_length _ hle, htopO]
                refine ⟨⟨by rw [repl_length _ _ _ (by rw [hcvl, hml]; omega), hcvl], .inr ⟨g1, cap1, _, h3, Nat.zero_le _, set_same w _ _ _ _ _ hg, hnc, hcm, ?_, ?_⟩⟩, howner⟩
                · rw [List.size_toArray, repl_length _ _ _ (by rw [hml, Array.length_toList]; omega), Array.length_toList, hcs]
                · rw [List.toList_toArray, take_repl _ _ _ _ (by rw [hml]; omega) (by simpa using hcz), htk, Nat.zero_add]
              · have he2 : e < row.xs.length := by
                  have : e < (clrXs row.xs off len).length := he
                  rwa [clr_length _ hle] at this
                have hct0 : (cells row.τ ((clrXs row.xs off len).getD e (dflt row.τ)))[c]? = some ct := hct
                have hc' : c < sz row.τ := by have := (List.getElem?_eq_some_iff.1 hct0).1; rwa [cells_length] at this
                rw [clr_getD _ hle] at hct0
                show ∃ u, (Soft.repl (γ.cv r) (off * sz row.τ) _)[e * sz row.τ + c]? = some u ∧ CellR X γ.O _ (nesC r e c row.ow) ct u
                have hez : (e + 1) * sz row.τ ≤ row.xs.length * sz row.τ := Nat.mul_le_mul_right _ he2
                rw [Nat.add_mul] at hez
                by_cases hin : off ≤ e ∧ e < off + len
                · rw [if_pos hin] at hct0
                  obtain ⟨j, rfl⟩ : ∃ j, e = off + j := ⟨e - off, by omega⟩
                  have hj : j < len := by omega
                  have hjz : (j + 1) * sz row.τ ≤ len * sz row.τ := Nat.mul_le_mul_right _ hj
                  rw [Nat.add_mul] at hjz
                  refine ⟨ctVal ct, ?_, dflt_cell _ hct0 _ _ _ _⟩
                  rw [show (off + j) * sz row.τ + c = off * sz row.τ + (j * sz row.τ + c) by rw [Nat.add_mul]; omega, repl_get_in _ _ _ _ (by rw [hml]; omega) (by rw [hml, hcvl]; omega), hmade j c hj hc', hct0]
                  rfl
                · rw [if_neg hin] at hct0
                  obtain ⟨u, hu', hcell⟩ := hrow.cel e c ct he2 hct0
                  refine ⟨u, ?_, hcell.re (fun g o hg' hi' => ⟨(set_other w _ _ g (fun h => nes_ne hi' (h ▸ hOg))).trans hg', hi'⟩) id⟩
                  rcases Nat.lt_or_ge e off with h | h
                  · have h4 : (e + 1) * sz row.τ ≤ off * sz row.τ := Nat.mul_le_mul_right _ h
                    rw [Nat.add_mul] at h4
                    rw [repl_get_lt _ _ _ _ (by omega) (by rw [hcvl]; omega)]; exact hu'
                  · have h4 : (off + len) * sz row.τ ≤ e * sz row.τ := Nat.mul_le_mul_right _ (by omega)
                    rw [Nat.add_mul] at h4
                    rw [repl_get_ge _ _ _ _ (by rw [hml]; omega) (by rw [hml, hcvl]; omega)]; exact hu'

end Go.Soft
