/-
  SoftF: changes of rows.
-/
import Derived.Test.YtlcebcpciagogaaSoftE
import Derived.Laws.OwnMore
set_option linter.constructorNameAsVariable false
set_option linter.unusedSimpArgs false
set_option linter.unusedVariables false
namespace Go.Soft
open Go
variable {X : Ctx} {m M : Lk} {γ γ' : Gh} {w w' : World} {ρ : Operand → Value} {S : St} {δ : Dl}

/-- nothing but what some rows have is changed -/
structure Chg (R : Nat → Prop) (γ : Gh) (w : World) (γ' : Gh) (w' : World) : Prop where
  os : w'.os = w.os
  tape : w'.tape = w.tape
  output : w'.output = w.output
  size : w.heap.size ≤ w'.heap.size
  blk : ∀ g, g < w.heap.size → (∀ r, R r → γ.O g ≠ some (.r r) ∧ ∀ e c, γ.O g ≠ some (.n r e c)) → w'.heap[g]? = w.heap[g]? ∧ γ'.O g = γ.O g
  top : ∀ g, w'.heap.size ≤ g → γ'.O g = none
  vb : γ'.vb = γ.vb
  rv : ∀ r, ¬ R r → γ'.rv r = γ.rv r ∧ γ'.cv r = γ.cv r

theorem Chg.row {R : Nat → Prop} (h : Chg R γ w γ' w') {r : Nat} (hr : ¬ R r) {row : Row} {v : Value} {cs : List Value} (hrow : RowR X γ.O w r row v cs) : RowR X γ'.O w' r row v cs :=
  fam_frame hrow fun g o hg hf => by
    obtain ⟨h1, h2⟩ := h.blk g (lt_of_some hg) (fun s hs => by
      rcases hf with h | h | h | ⟨_, _, h⟩ <;> rw [h] <;> refine ⟨?_, fun e c => ?_⟩ <;> simp
      · rintro rfl; exact hr hs
      · rintro rfl; exact absurd hs hr)
    exact ⟨h1.trans hg, h2⟩

theorem rows_step {R : Nat → Prop} (hR : Rel X S.lk γ w) (hvs : δ.vs = []) (hc : Chg R γ w γ' w') (keep : ∀ x v, RelC S.lk γ x v → RelC (S.app δ).lk γ' (δ.map x) v)
    (hset : ∀ r row, lkZ δ.rs r = some (some row) → RowR X γ'.O w' r row (γ'.rv r) (γ'.cv r)) (hun : ∀ r row, lkZ δ.rs r = none → S.lk.r r = some row → ¬ R r)
    (hk1 : ∀ k row, lkZ δ.rs k = some (some row) → row.ow = 1 → k < 100000) (hio : ∀ k, 200000 ≤ k → k < 300000 → γ'.rv k = γ.rv k) : Step X S γ w δ γ' w' := by
  refine ⟨⟨fun k cs hk => ?_, fun r row hr => ?_⟩, keep, ?_, fun k row h1 h2 => hc.rv k (hun k row h1 h2), hk1, hio, fun k _ => (by rw [hc.vb]), fun k cs hk _ => ?_⟩
  · rw [app_v, hvs] at hk
    simp only [lkZ] at hk
    cases hcs : S.lk.v k with
    | none => simp [hcs] at hk
    | some cs' =>
      rw [hcs] at hk; simp only [Option.map_some, Option.some.injEq] at hk; subst hk
      obtain ⟨h1, cur, e, h2, h3⟩ := hR.vs k cs' hcs
      obtain ⟨h4, h5⟩ := hc.blk (γ.vb k) (lt_of_some h2) (fun s _ => by rw [h1]; simp)
      rw [hc.vb]
      exact ⟨h5.trans h1, cur, e, h4.trans h2, h3.map keep⟩
  · rw [app_r] at hr
    cases hz : lkZ δ.rs r with
    | none =>
      rw [hz] at hr
      have hn := hun r row hz hr
      obtain ⟨h1, h2⟩ := hc.rv r hn
      rw [h1, h2]
      exact hc.row hn (hR.rs r row hr)
    | some r' =>
      rw [hz] at hr
      subst hr
      exact hset r row hz
  · refine ⟨hc.os, hc.tape, hc.output, hc.size, fun g hg ho => ?_, hc.top⟩
    obtain ⟨h1, h2⟩ := hc.blk g hg (fun s _ => by rcases ho with h | h | h <;> rw [h] <;> simp)
    exact ⟨h2, h1⟩
  · obtain ⟨h1, cur, e, h2, h3⟩ := hR.vs k cs hk
    obtain ⟨h4, h5⟩ := hc.blk (γ.vb k) (lt_of_some h2) (fun s _ => by rw [h1]; simp)
    exact ⟨by rw [hc.vb], h5.trans h1, h4⟩

/-- in a new row nothing is owned but its own block -/
def newO (O : OM) (key : Nat) (n : Option Nat) : OM := fun g => if some g = n then some (.r key) else match O g with
  | some (.r k) => if k = key then none else some (.r k)
  | some (.n k e c) => if k = key then none else some (.n k e c)
  | o => o
def newG (γ : Gh) (key : Nat) (n : Option Nat) (v : Value) (cs : List Value) : Gh := { γ with O := newO γ.O key n, rv := updN γ.rv key v, cv := updN γ.cv key cs }

theorem new_chg (htop : ∀ g, w.heap.size ≤ g → γ.O g = none) {key : Nat} {n : Option Nat} {v : Value} {cs : List Value} (hos : w'.os = w.os) (htp : w'.tape = w.tape) (hout : w'.output = w.output)
    (hsz : w.heap.size ≤ w'.heap.size) (hn : ∀ g, some g = n → w.heap.size ≤ g ∧ g < w'.heap.size) (hb : ∀ g, g < w.heap.size → w'.heap[g]? = w.heap[g]?) :
    Chg (· = key) γ w (newG γ key n v cs) w' := by
  refine ⟨hos, htp, hout, hsz, fun g hg hk => ⟨hb g hg, ?_⟩, fun g hg => ?_, rfl, fun r hr => by simp [newG, updN, hr]⟩
  · obtain ⟨h1, h2⟩ := hk key rfl
    have hgn : ¬ some g = n := fun h => by have := hn g h; omega
    simp only [newG, newO, if_neg hgn]
    cases ho : γ.O g with
    | none => rfl
    | some o =>
      rw [ho] at h1 h2
      cases o with
      | r k => simp at h1; simp [h1]
      | n k e c => have := h2 e c; simp at this; simp [this]
      | _ => rfl
  · have hgn : ¬ some g = n := fun h => by have := hn g h; omega
    simp only [newG, newO, if_neg hgn, htop g (Nat.le_trans hsz hg)]

/-! ### a new row -/
def nrD (key : Nat) (row : Row) : Dl := { Dl.z with kr := [key], rs := [(key, some row)] }
theorem nr_r (S : St) (key : Nat) (row : Row) (k : Nat) : (S.app (nrD key row)).lk.r k = if key = k then some row else S.lk.r k := by
  rw [app_r]
  show (match (if key = k then some (some row) else none) with | some r => r | none => _) = _
  by_cases h : key = k <;> simp [h]
theorem nr_v (S : St) (key : Nat) (row : Row) (k : Nat) : (S.app (nrD key row)).lk.v k = (S.lk.v k).map (List.map (nrD key row).map) := by rw [app_v]; rfl
theorem hasN1 {a b : Nat} : hasN a [b] = false ↔ a ≠ b := by
  simp only [hasN]
  cases h : Nat.beq b a with
  | true => have := nat_beq h; simp [this]
  | false => simp; rintro rfl; rw [Nat.beq_refl] at h; cases h

theorem nr_keep (hR : Rel X S.lk γ w) (key : Nat) (row : Row) {γ' : Gh} (hvb : γ'.vb = γ.vb) (hrv : ∀ r, r ≠ key → γ'.rv r = γ.rv r ∧ γ'.cv r = γ.cv r) :
    ∀ x v, RelC S.lk γ x v → RelC (S.app (nrD key row)).lk γ' ((nrD key row).map x) v := by
  have hne : ∀ r, hasN r (nrD key row).kr = false → key ≠ r := fun r h => Ne.symm (hasN1.1 h)
  refine keep_of hR rfl (fun r rw' h hk => ⟨⟨rw', by rw [nr_r, if_neg (hne r hk)]; exact h⟩, (hrv r (Ne.symm (hne r hk))).1⟩) (fun r row1 row2 h hk _ h' => ?_) (fun r hk _ _ => ⟨fun row1 row2 h h' => ?_⟩) (fun k cs h _ => ⟨?_, by rw [hvb]⟩)
  · rw [nr_r, if_neg (hne r hk), h] at h'; cases h'; exact ⟨rfl, Nat.le_refl _⟩
  · rw [nr_r, if_neg (hne r hk), h] at h'; cases h'
    intro e c τ ys _ hc; exact ⟨⟨ys, hc, Nat.le_refl _⟩, by rw [(hrv r (Ne.symm (hne r hk))).2]⟩
  · exact ⟨cs.map (nrD key row).map, by rw [nr_v, h]; rfl⟩

/-- a row that is made here -/
theorem nr_step (hR : Rel X S.lk γ w) {key : Nat} {row : Row} (hkey : key < 100000) {v : Value} {cs : List Value} {n : Option Nat} (hc : Chg (· = key) γ w (newG γ key n v cs) w') (hrow : RowR X (newO γ.O key n) w' key row v cs) :
    Step X S γ w (nrD key row) (newG γ key n v cs) w' ∧ RelC (S.app (nrD key row)).lk (newG γ key n v cs) (.sw key) v := by
  refine ⟨rows_step hR rfl hc (nr_keep hR key row rfl fun r hr => by simp [newG, updN, hr]) (fun r row' h => ?_) (fun r row' h _ => ?_) (fun k row' h _ => ?_) (fun k h1 _ => by simp [newG, updN, show k ≠ key by omega]), ⟨row, by rw [nr_r, if_pos rfl]⟩, by simp [newG, updN]⟩
  · have h : (if key = r then some (some row) else none) = some (some row') := h
    by_cases hk : key = r
    · subst hk; rw [if_pos rfl] at h; cases h
      simpa [newG, updN] using hrow
    · rw [if_neg hk] at h; cases h
  · have h : (if key = r then some (some row) else none) = none := h
    by_cases hk : key = r
    · rw [if_pos hk] at h; cases h
    · exact Ne.symm hk
  · have h : (if key = k then some (some row) else none) = some (some row') := h
    by_cases hk : key = k
    · omega
    · rw [if_neg hk] at h; cases h

/-! ### make -/
theorem dflt_cell (τ : Ty) {c : Nat} {ct : Ct} (h : (cells τ (dflt τ))[c]? = some ct) (X : Ctx) (O : OM) (w : World) (cl : Cls) : CellR X O w cl ct (ctVal ct) := by
  have nil : ∀ σ : Ty, σ.deep = false → CellR X O w cl (.l σ []) (.slice none 0 0) := by
    intro σ hd
    refine ⟨hd, ?_⟩
    cases cl with
    | own t => exact ⟨World.ownsRow_nil w 0 _ _, by simp [Value.ownBlock]⟩
    | _ => exact ⟨by simp [fcells], .inl ⟨rfl, rfl⟩⟩
  have hm := List.mem_of_getElem? h
  have one : ∀ ct' : Ct, (ct' = ct) → (ct' = .l .int [] ∨ ct' = .l .slot [] ∨ CellR X O w cl ct' (ctVal ct')) → CellR X O w cl ct (ctVal ct) := by
    rintro _ rfl (rfl | rfl | h)
    · exact nil _ rfl
    · exact nil _ rfl
    · exact h
  cases τ <;> simp only [cells, dflt, List.mem_cons, List.not_mem_nil, or_false] at hm
  all_goals (
    repeat (first
      | (refine one _ hm.symm ?_; first | exact .inr (.inr rfl) | exact .inl rfl | exact .inr (.inl rfl))
      | (refine hm.elim (fun hm => ?_) (fun hm => ?_))))

theorem elOwn_inv {t : TypeId} {τ : Ty} (h : X.elOwn t = some τ) : X.P.underlying t = some (.slice (X.id τ)) ∧ lk X.ty (X.id τ) = some τ := by
  simp only [Ctx.elOwn, elId, Ctx.tyOf] at h
  revert h; split
  · rename_i e he
    split
    · rename_i τ' hτ
      split
      · rename_i hb
        intro h; cases h
        have := nat_beq hb
        subst this
        refine ⟨?_, hτ⟩
        revert he; split <;> intro he
        · cases he; assumption
        · cases he
      · simp
    · simp
  · simp
theorem own_info (hX : CtxOk X) {t : TypeId} {τ : Ty} (h : X.elOwn t = some τ) : ∃ i z, X.P.info? (X.id τ) = some i ∧ i.zero = some z ∧ i.size = sz τ ∧ i.bytes ≤ 128 ∧ z.cells.toList = (cells τ (dflt τ)).map ctVal ∧ z.cells.size = sz τ := by
  obtain ⟨_, h2⟩ := elOwn_inv h
  obtain ⟨i, hi, hs⟩ := hX.ty _ _ h2
  obtain ⟨i', z, hi', hz, hc, hb⟩ := hX.id _ _ h2 rfl
  rw [hi] at hi'; cases hi'
  refine ⟨i, z, hi, hz, hs, hb, hc, ?_⟩
  have := congrArg List.length hc
  simpa [cells_length] using this

theorem made_get {z : Array Value} {n e c s : Nat} (hs : z.size = s) (hp : 0 < s) (he : e < n) (hc : c < s) : (madeCells z (n * s)).toList[e * s + c]? = z.toList[c]? := by
  have h1 : (e + 1) * s ≤ n * s := Nat.mul_le_mul_right _ he
  rw [Nat.add_mul] at h1
  have h2 : e * s + c < n * s := by omega
  have h3 : (e * s + c) % s = c := by rw [Nat.mul_comm, Nat.mul_add_mod, Nat.mod_eq_of_lt hc]
  subst hs
  simp [madeCells, h2, h3, hc]

theorem make_step (hX : CtxOk X) (hR : Rel X S.lk γ w) (htop : ∀ g, w.heap.size ≤ g → γ.O g = none) {t : TypeId} {τ : Ty} (ht : X.elOwn t = some τ) {k k' : IntKind} {n : Nat} (hn : n ≤ BIG) (key : Nat) (hkey : key < 100000) :
    ∃ v w' γ', (Instr.makeSlice t (.int k n) (.int k' n)).run X.P w = .ok v w' ∧ Step X S γ w (nrD key ⟨τ, List.replicate n (dflt τ), 5⟩) γ' w' ∧
      RelC (S.app (nrD key ⟨τ, List.replicate n (dflt τ), 5⟩)).lk γ' (.sw key) v := by
  obtain ⟨hu, hτ⟩ := elOwn_inv ht
  obtain ⟨i, z, hi, hz, hs, hb, hc, hzs⟩ := own_info hX ht
  have hbn : i.bytes * n ≤ 281474976710656 := by
    have := Nat.mul_le_mul hb hn; simp only [BIG] at this; omega
  obtain ⟨w', hrun, hown, hgr⟩ := run_make_full (P := X.P) w 0 t (X.id τ) i z (sz τ) hu hi hz hs k k' n hbn (by simp only [BIG] at hn; simp only [maxLen]; omega) (Nat.zero_le _)
  have hblk : w.heap.size < w'.heap.size := (hown.lt w.heap.size rfl).2
  have hchg : Chg (· = key) γ w (newG γ key (some w.heap.size) (.slice (some ⟨w.heap.size, 0, none⟩) n n) (madeCells z.cells (n * sz τ)).toList) w' :=
    new_chg htop hgr.os hgr.tape hgr.output hgr.size (fun g hg => by cases hg; exact ⟨Nat.le_refl _, hblk⟩) (fun g hg => hgr.block g hg (by simp))
  have hrow : RowR X (newO γ.O key (some w.heap.size)) w' key ⟨τ, List.replicate n (dflt τ), 5⟩ (.slice (some ⟨w.heap.size, 0, none⟩) n n) (madeCells z.cells (n * sz τ)).toList := by
    refine ⟨⟨by simpa using hown, fun g hg => ?_⟩, fun e c ct he hct => ?_⟩
    · have : w.heap.size = g := by simpa [Value.ownBlock] using hg
      simp [newO, this]
    · have he : e < n := by simpa using he
      have hcs : (cells τ (dflt τ))[c]? = some ct := by
        have : (List.replicate n (dflt τ)).getD e (dflt τ) = dflt τ := by simp [List.getD, List.getElem?_replicate, he]
        rw [row_cs, this] at hct; exact hct
      have hlt : c < sz τ := by have := (List.getElem?_eq_some_iff.1 hcs).1; rwa [cells_length] at this
      refine ⟨ctVal ct, ?_, dflt_cell τ hcs _ _ _ _⟩
      rw [made_get hzs (sz_pos τ) he hlt, hc, List.getElem?_map, hcs]; rfl
  obtain ⟨h1, h2⟩ := nr_step hR hkey hchg hrow
  exact ⟨_, w', _, hrun, h1, h2⟩

/-! ### what goes into a row -/
/-- whose the block of a slice itself is -/
def TopA (M : Lk) (γ : Gh) (x : Cv) (g : Nat) : Prop := match x with
  | .sw r => ∃ row, M.r r = some row ∧ In (topC r row.ow) (γ.O g)
  | .sl r _ _ => ∃ row, M.r r = some row ∧ In (topC r row.ow) (γ.O g)
  | .nw r e c => ∃ row, M.r r = some row ∧ In (nesC r e c row.ow) (γ.O g)
  | .ns r e c _ _ => ∃ row, M.r r = some row ∧ In (nesC r e c row.ow) (γ.O g)
  | _ => False

theorem flat_top (hm : Le m M) (hR : Rel X M γ w) {x : Cv} {v : Value} (hx : RelC M γ x v) {τ : Ty} {ys : List (El τ)} (hd : τ.deep = false) (h : (m.vw x).ct = some (.l τ ys)) :
    SlF (TopA M γ x) w (sz τ) v ys.length (fcells τ ys) := by
  obtain ⟨⟨cs, hvis⟩, hlen⟩ := vw_vis hm hR hx h
  have hfl := hvis.flat hd
  subst hfl
  refine ⟨hvis.top.1, ?_⟩
  -- the block is the one that the reference has
  have top : ∀ {A : Nat → Prop} {b : Value} {n' : Nat} {cs' : List Value} {off len z : Nat}, SlF A w z b n' cs' → SubV z b off len v → ∀ g o n cap, v = .slice (some ⟨g, o, none⟩) n cap → A g := by
    intro A b n' cs' off len z hb hs g o n cap hv
    rcases hs with ⟨_, h2, _⟩ | ⟨g1, o1, n1, cap1, o2, cap2, h1, h2, _⟩
    · rw [h2] at hv; cases hv
    · rw [h2] at hv
      have hg : g1 = g := by injection hv with h1 _ _; injection h1 with h1; injection h1
      subst hg
      rcases hb.2 with ⟨h3, _⟩ | ⟨g3, o3, cap3, cur, e, fz, h3, _, ha, _⟩
      · rw [h3] at h1; cases h1
      · rw [h3] at h1
        have hg : g3 = g1 := by injection h1 with h1 _ _; injection h1 with h1; injection h1
        exact hg ▸ ha
  have self : ∀ {A : Nat → Prop} {n' : Nat} {cs' : List Value} {z : Nat}, SlF A w z v n' cs' → ∀ g o n cap, v = .slice (some ⟨g, o, none⟩) n cap → A g := by
    intro A n' cs' z hb g o n cap hv
    exact top hb hb.slcV.self g o n cap hv
  have key : ∀ g o n cap, v = .slice (some ⟨g, o, none⟩) n cap → TopA M γ x g := by
    cases x with
    | nl σ => intro g o n cap hv; have hx : v = .slice none 0 0 := hx; rw [hx] at hv; cases hv
    | sw r =>
      obtain ⟨⟨row, hr⟩, rfl⟩ := hx
      exact fun g o n cap hv => ⟨row, hr, self (hR.rs r row hr).top.slF g o n cap hv⟩
    | sl r off len =>
      obtain ⟨row, hr, _, hs⟩ := hx
      exact fun g o n cap hv => ⟨row, hr, top (hR.rs r row hr).top.slF hs g o n cap hv⟩
    | nw r e c =>
      obtain ⟨row, τ', ys', hr, he, hc, hu⟩ := hx
      obtain ⟨u', hu', hcell⟩ := (hR.rs r row hr).cel e c _ he hc
      rw [hu] at hu'; cases hu'
      exact fun g o n cap hv => ⟨row, hr, self hcell.2.slF g o n cap hv⟩
    | ns r e c off len =>
      obtain ⟨row, τ', ys', u, hr, he, hc, hu, _, hs⟩ := hx
      obtain ⟨u', hu', hcell⟩ := (hR.rs r row hr).cel e c _ he hc
      rw [hu] at hu'; cases hu'
      exact fun g o n cap hv => ⟨row, hr, top hcell.2.slF hs g o n cap hv⟩
    | _ => simp [Lk.vw, Vw.ct] at h
  rcases hvis.top.2 with hn | ⟨g, o, cap, cur, e, fz, h1, h2, h3, h4⟩
  · exact .inl hn
  · exact .inr ⟨g, o, cap, cur, e, fz, h1, h2, key _ _ _ _ h1, h4⟩

/-- what is asked of the owners behind, for one cell that goes into a row -/
structure AbO (M : Lk) (γ : Gh) (w : World) (O' : OM) (w' : World) (x : Cv) (a : Ab) (key e c ow' : Nat) : Prop where
  heap : ∀ g o, w.heap[g]? = some o → TopA M γ x g → w'.heap[g]? = some o
  non : ∀ g, g < w.heap.size → (γ.O g = none ∨ γ.O g = some .fz) → O' g = γ.O g
  mv : ∀ r, a.mv = some r → ∀ g, γ.O g = some (.r r) → In (nesC key e c ow') (O' g)
  sh3 : ∀ r, a.sh = some (r, 3) → ∀ g, γ.O g = some (.r r) → O' g = some .fz
  sh4 : ∀ r, a.sh = some (r, 4) → ∀ g e c, γ.O g = some (.n r e c) → O' g = some .fz

theorem topC_cases (r : Nat) {ow : Nat} (ho : ownK ow = false) : (topC r ow = .fz ∧ lvK ow = 4) ∨ (topC r ow = .bor ∧ lvK ow = 2) := by
  simp only [topC, ho, lvK]
  by_cases h3 : ow = 3
  · subst h3; exact .inl ⟨rfl, rfl⟩
  · refine .inr ⟨?_, ?_⟩
    · split
      · exact absurd rfl h3
      · rfl
    · split
      · exact absurd rfl h3
      · rfl

theorem absorb_ok (hm : Le m M) (hR : Rel X M γ w) {x : Cv} {v : Value} (hx : RelC M γ x v) {a : Ab} (ha : m.absorb x = some a) {key e c ow' : Nat} (how : ow' = 2 ∨ ow' = 4 ∨ ow' = 5) (hle : ow' ≤ a.lv)
    {O' : OM} {w' : World} (h : AbO M γ w O' w' x a key e c ow') : CellR X O' w' (nesC key e c ow') a.ct v := by
  have nil : ∀ σ : Ty, σ.deep = false → CellR X O' w' (nesC key e c ow') (.l σ []) (.slice none 0 0) := by
    intro σ hd
    refine ⟨hd, ?_⟩
    cases nesC key e c ow' with
    | own t => exact ⟨World.ownsRow_nil w' 0 _ _, by simp [Value.ownBlock]⟩
    | _ => exact ⟨by simp [fcells], .inl ⟨rfl, rfl⟩⟩
  -- what is not owned by the row that it comes from, or is not any more
  have shut : ∀ (τ : Ty) (ys : List (El τ)), τ.deep = false → (m.vw x).ct = some (.l τ ys) → ow' ≠ 5 → (∀ g, g < w.heap.size → TopA M γ x g → In (nesC key e c ow') (O' g)) →
      CellR X O' w' (nesC key e c ow') (.l τ ys) v := by
    intro τ ys hd hct h5 ht
    refine ⟨hd, ?_⟩
    have hs := flat_top hm hR hx hd hct
    have hb : ∀ g o, w.heap[g]? = some o → TopA M γ x g → w'.heap[g]? = some o ∧ In (nesC key e c ow') (O' g) := by
      intro g o hg hi
      exact ⟨h.heap g o hg hi, ht g (lt_of_some hg) hi⟩
    have hs' := hs.mono hb
    have : nesC key e c ow' = .bor ∨ nesC key e c ow' = .fz := by
      rcases how with rfl | rfl | rfl
      · exact .inl rfl
      · exact .inr rfl
      · exact absurd rfl h5
    rcases this with hc | hc <;> rw [hc] at hs' ⊢ <;> exact hs'
  have toB : ∀ g, g < w.heap.size → In .bor (γ.O g) → ow' = 2 → In (nesC key e c ow') (O' g) := by
    intro g hg hi h2; subst h2
    have := h.non g hg hi
    show In .bor (O' g); rw [this]; exact hi
  have toF : ∀ g, (O' g = some .fz) → ow' ≠ 5 → In (nesC key e c ow') (O' g) := by
    intro g hi h5
    rcases how with rfl | rfl | rfl
    · exact .inr hi
    · exact hi
    · exact absurd rfl h5
  have fzF : ∀ g, g < w.heap.size → γ.O g = some .fz → O' g = some .fz := fun g hg hi => by rw [h.non g hg (.inr hi)]; exact hi
  cases x with
  | b y => simp only [Lk.absorb, Option.some.injEq] at ha; subst ha; exact hx
  | i k n => simp only [Lk.absorb, Option.some.injEq] at ha; subst ha; exact hx
  | s y => simp only [Lk.absorb, Option.some.injEq] at ha; subst ha; exact hx
  | nl τ =>
    simp only [Lk.absorb] at ha
    cases hd : τ.deep with
    | true => simp [hd] at ha
    | false => simp only [hd, Option.some.injEq] at ha; subst ha; have hx : v = .slice none 0 0 := hx; subst hx; exact nil τ hd
  | sw r =>
    simp only [Lk.absorb] at ha
    cases hr : m.r r with
    | none => simp [hr] at ha
    | some row =>
      have hr2 := hm.r r row hr
      cases hd : row.τ.deep with
      | true => simp [hr, hd] at ha
      | false =>
        cases ho : ownK row.ow with
        | true =>
          simp only [hr, hd, ho, Option.some.injEq] at ha; subst ha
          obtain ⟨⟨row', hr'⟩, rfl⟩ := hx
          have hrow := hR.rs r row hr2
          refine ⟨hd, ?_⟩
          have hfl : γ.cv r = fcells row.τ row.xs := (hrow.vis (A := fun _ => True) (fun _ _ => trivial)).flat hd
          have htop := hrow.top
          rw [hfl] at htop
          refine htop.re (fun g o hg hi => ?_) (fun _ => by simp [topC, ho, Cls.isOwn])
          have hi : γ.O g = some (.r r) := by simpa [topC, ho, In] using hi
          exact ⟨h.heap g o hg ⟨row, hr2, by simpa [topC, ho, In] using hi⟩, h.mv r rfl g hi⟩
        | false =>
          simp only [hr, hd, ho, Option.some.injEq] at ha; subst ha
          have hct : (m.vw (.sw r)).ct = some (.l row.τ row.xs) := by simp [Lk.vw, hr, Vw.ct]
          simp only at hle ⊢
          rcases topC_cases r ho with ⟨ht, hl⟩ | ⟨ht, hl⟩
          · rw [hl] at hle
            refine shut _ _ hd hct (by omega) (fun g hg hi => toF g ?_ (by omega))
            obtain ⟨row', hr', hi⟩ := hi
            rw [hr2] at hr'; cases hr'
            rw [ht] at hi; exact fzF g hg hi
          · rw [hl] at hle
            refine shut _ _ hd hct (by omega) (fun g hg hi => toB g hg ?_ (by omega))
            obtain ⟨row', hr', hi⟩ := hi
            rw [hr2] at hr'; cases hr'
            rw [ht] at hi; exact hi
  | sl r off len =>
    simp only [Lk.absorb] at ha
    cases hct : (m.vw (.sl r off len)).ct with
    | none => simp [hct] at ha
    | some ct =>
      cases ct with
      | l τ y =>
        cases hr : m.r r with
        | none => simp [hct, hr, Cv.row] at ha
        | some row =>
          have hr2 := hm.r r row hr
          cases hd : τ.deep with
          | true => simp [hct, hr, hd, Cv.row] at ha
          | false =>
            cases ho : ownK row.ow with
            | true =>
              simp only [hct, hr, hd, ho, Cv.row, Cv.inner] at ha
              cases h4 : leK 4 row.ow with
              | false => simp [h4] at ha
              | true =>
              simp only [h4, Option.some.injEq] at ha; subst ha
              simp only at hle ⊢
              refine shut _ _ hd hct (by omega) (fun g hg hi => toF g ?_ (by omega))
              obtain ⟨row', hr', hi⟩ := hi
              rw [hr2] at hr'; cases hr'
              exact h.sh3 r rfl g (by simpa [topC, ho, In] using hi)
            | false =>
              simp only [hct, hr, hd, ho, Cv.row, Cv.inner, Option.some.injEq] at ha; subst ha
              simp only at hle ⊢
              rcases topC_cases r ho with ⟨ht, hl⟩ | ⟨ht, hl⟩
              · rw [hl] at hle
                refine shut _ _ hd hct (by omega) (fun g hg hi => toF g ?_ (by omega))
                obtain ⟨row', hr', hi⟩ := hi
                rw [hr2] at hr'; cases hr'
                rw [ht] at hi; exact fzF g hg hi
              · rw [hl] at hle
                refine shut _ _ hd hct (by omega) (fun g hg hi => toB g hg ?_ (by omega))
                obtain ⟨row', hr', hi⟩ := hi
                rw [hr2] at hr'; cases hr'
                rw [ht] at hi; exact hi
      | _ => simp [hct] at ha
  | nw r e' c' =>
    simp only [Lk.absorb] at ha
    cases hct : (m.vw (.nw r e' c')).ct with
    | none => simp [hct] at ha
    | some ct =>
      cases ct with
      | l τ y =>
        cases hr : m.r r with
        | none => simp [hct, hr, Cv.row] at ha
        | some row =>
          have hr2 := hm.r r row hr
          cases hd : τ.deep with
          | true => simp [hct, hr, hd, Cv.row] at ha
          | false =>
            simp only [hct, hr, hd, Cv.row, Cv.inner] at ha
            have fz4 : (row.ow = 4 ∨ row.ow = 3) → a = ⟨.l τ y, none, none, 4⟩ → CellR X O' w' (nesC key e c ow') a.ct v := by
              rintro ho rfl
              simp only at hle ⊢
              refine shut _ _ hd hct (by omega) (fun g hg hi => toF g ?_ (by omega))
              obtain ⟨row', hr', hi⟩ := hi
              rw [hr2] at hr'; cases hr'
              exact fzF g hg (by rcases ho with ho | ho <;> rw [ho] at hi <;> exact hi)
            revert ha; split
            · rename_i ho
              intro ha; cases ha
              simp only at hle ⊢
              refine shut _ _ hd hct (by omega) (fun g hg hi => toF g ?_ (by omega))
              obtain ⟨row', hr', hi⟩ := hi
              rw [hr2] at hr'; cases hr'
              rw [ho] at hi
              exact h.sh4 r rfl g _ _ hi
            · rename_i ho; intro ha; exact fz4 (.inl ho) (Option.some.inj ha).symm
            · rename_i ho; intro ha; exact fz4 (.inr ho) (Option.some.inj ha).symm
            · rename_i h5 h4 h3
              intro ha; cases ha
              simp only at hle ⊢
              refine shut _ _ hd hct (by omega) (fun g hg hi => toB g hg ?_ (by omega))
              obtain ⟨row', hr', hi⟩ := hi
              rw [hr2] at hr'; cases hr'
              have : ∀ e c, nesC r e c row.ow = .bor := by
                intro e c; simp only [nesC]
              rw [this] at hi; exact hi
      | _ => simp [hct] at ha
  | ns r e' c' off len =>
    simp only [Lk.absorb] at ha
    cases hct : (m.vw (.ns r e' c' off len)).ct with
    | none => simp [hct] at ha
    | some ct =>
      cases ct with
      | l τ y =>
        cases hr : m.r r with
        | none => simp [hct, hr, Cv.row] at ha
        | some row =>
          have hr2 := hm.r r row hr
          cases hd : τ.deep with
          | true => simp [hct, hr, hd, Cv.row] at ha
          | false =>
            simp only [hct, hr, hd, Cv.row, Cv.inner] at ha
            have fz4 : (row.ow = 4 ∨ row.ow = 3) → a = ⟨.l τ y, none, none, 4⟩ → CellR X O' w' (nesC key e c ow') a.ct v := by
              rintro ho rfl
              simp only at hle ⊢
              refine shut _ _ hd hct (by omega) (fun g hg hi => toF g ?_ (by omega))
              obtain ⟨row', hr', hi⟩ := hi
              rw [hr2] at hr'; cases hr'
              exact fzF g hg (by rcases ho with ho | ho <;> rw [ho] at hi <;> exact hi)
            revert ha; split
            · rename_i ho
              intro ha; cases ha
              simp only at hle ⊢
              refine shut _ _ hd hct (by omega) (fun g hg hi => toF g ?_ (by omega))
              obtain ⟨row', hr', hi⟩ := hi
              rw [hr2] at hr'; cases hr'
              rw [ho] at hi
              exact h.sh4 r rfl g _ _ hi
            · rename_i ho; intro ha; exact fz4 (.inl ho) (Option.some.inj ha).symm
            · rename_i ho; intro ha; exact fz4 (.inr ho) (Option.some.inj ha).symm
            · rename_i h5 h4 h3
              intro ha; cases ha
              simp only at hle ⊢
              refine shut _ _ hd hct (by omega) (fun g hg hi => toB g hg ?_ (by omega))
              obtain ⟨row', hr', hi⟩ := hi
              rw [hr2] at hr'; cases hr'
              have : ∀ e c, nesC r e c row.ow = .bor := by
                intro e c; simp only [nesC]
              rw [this] at hi; exact hi
      | _ => simp [hct] at ha
  | _ => simp [Lk.absorb, Lk.vw, Vw.ct] at ha

/-- what is asked of the owners behind, for many cells -/
structure AbsO (M : Lk) (γ : Gh) (w : World) (O' : OM) (w' : World) (xs : List Cv) (mv : List (Nat × (Nat × Nat))) (sh : List (Nat × Nat)) (key ow' : Nat) : Prop where
  heap : ∀ g o, w.heap[g]? = some o → (∃ x ∈ xs, TopA M γ x g) → w'.heap[g]? = some o
  non : ∀ g, g < w.heap.size → (γ.O g = none ∨ γ.O g = some .fz) → O' g = γ.O g
  mv : ∀ r e c, (r, (e, c)) ∈ mv → ∀ g, γ.O g = some (.r r) → In (nesC key e c ow') (O' g)
  sh3 : ∀ r, (r, 3) ∈ sh → ∀ g, γ.O g = some (.r r) → O' g = some .fz
  sh4 : ∀ r, (r, 4) ∈ sh → ∀ g e c, γ.O g = some (.n r e c) → O' g = some .fz

theorem AbsO.mono {O' : OM} {xs ys : List Cv} {mv mv' : List (Nat × (Nat × Nat))} {sh sh' : List (Nat × Nat)} {key ow' : Nat} (h : AbsO M γ w O' w' xs mv sh key ow') (hx : ∀ x ∈ ys, x ∈ xs) (hmv : ∀ p ∈ mv', p ∈ mv)
    (hsh : ∀ p ∈ sh', p ∈ sh) : AbsO M γ w O' w' ys mv' sh' key ow' :=
  ⟨fun g o hg hi => h.heap g o hg (let ⟨x, hx', hi⟩ := hi; ⟨x, hx x hx', hi⟩), h.non,
    fun r e c hr => h.mv r e c (hmv _ hr), fun r hr => h.sh3 r (hsh _ hr), fun r hr => h.sh4 r (hsh _ hr)⟩

theorem absorbs_ok (hm : Le m M) (hR : Rel X M γ w) {key ow' e : Nat} (how : ow' = 2 ∨ ow' = 4 ∨ ow' = 5) {O' : OM} {w' : World} :
    ∀ (vl : List Cv) (us : List Value) (c : Nat) (a : Abs), RelL M γ vl us → m.absorbs e c vl = some a → ow' ≤ a.lv → AbsO M γ w O' w' vl a.mv a.sh key ow' →
      a.cts.length = vl.length ∧ ∀ j ct, a.cts[j]? = some ct → ∃ u, us[j]? = some u ∧ CellR X O' w' (nesC key e (c + j) ow') ct u := by
  intro vl
  induction vl with
  | nil => intro us c a hr ha _ _; simp only [Lk.absorbs, Option.some.injEq] at ha; subst ha; exact ⟨rfl, by simp⟩
  | cons x vl ih =>
    intro us c a hr ha hle hO
    cases hr with
    | cons hx hl =>
      rename_i v us
      simp only [Lk.absorbs] at ha
      cases hab : m.absorb x with
      | none => simp [hab] at ha
      | some a1 =>
        cases hrest : m.absorbs e (c + 1) vl with
        | none => simp [hab, hrest] at ha
        | some a2 =>
          simp only [hab, hrest, Option.some.injEq] at ha; subst ha
          simp only at hle hO ⊢
          have h2 : AbsO M γ w O' w' vl a2.mv a2.sh key ow' := hO.mono (fun x hx => List.mem_cons_of_mem _ hx) (fun p hp => by split; exact List.mem_cons_of_mem _ hp; exact hp)
            (fun p hp => by split; exact List.mem_cons_of_mem _ hp; exact hp)
          obtain ⟨i1, i2⟩ := ih us (c + 1) a2 hl hrest (by omega) h2
          have h1 : AbO M γ w O' w' x a1 key e c ow' := by
            refine ⟨fun g o hg hi => hO.heap g o hg ⟨x, by simp, hi⟩, hO.non, fun r hr => ?_, fun r hr => ?_, fun r hr => ?_⟩
            · have := hO.mv r e c (by rw [hr]; simp)
              exact this
            · exact hO.sh3 r (by rw [hr]; simp)
            · exact hO.sh4 r (by rw [hr]; simp)
          have h0 := absorb_ok hm hR hx hab (key := key) (e := e) (c := c) how (by omega) h1
          refine ⟨by simp [i1], fun j ct hj => ?_⟩
          cases j with
          | zero => simp only [List.getElem?_cons_zero, Option.some.injEq] at hj; subst hj; exact ⟨v, rfl, h0⟩
          | succ j =>
            obtain ⟨u, hu, hc⟩ := i2 j ct (by simpa using hj)
            exact ⟨u, by simpa using hu, by rw [show c + (j + 1) = c + 1 + j by omega]; exact hc⟩

theorem mkEl_cells {τ : Ty} {l : List Ct} {y : El τ} (h : mkEl τ l = some y) (hb : τ.isByte = true → okEl τ l = true) : cells τ y = l := by
  revert h hb
  fun_cases mkEl τ l
  case case3 n =>
    intro h hb
    cases h
    have hb := hb rfl
    simp only [okEl, Bool.and_eq_true, decide_eq_true_eq] at hb
    obtain ⟨h0, h1⟩ := hb
    have : ((UInt8.ofNat n.toNat).toNat : Int) = n := by
      have h2 : n.toNat < 256 := by omega
      simp only [UInt8.toNat_ofNat']
      rw [Nat.mod_eq_of_lt (by simpa using h2)]
      omega
    simp only [cells, this]
  all_goals (intro h hb; first | (cases h; rfl) | (exfalso; rw [mkEl.eq_11 _ _ (by assumption) (by assumption) (by assumption) (by assumption) (by assumption) (by assumption) (by assumption) (by assumption) (by assumption) (by assumption)] at h; cases h))

end Go.Soft
