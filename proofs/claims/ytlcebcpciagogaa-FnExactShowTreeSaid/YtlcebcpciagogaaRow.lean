/-
  For every input laws.FnExactShowTree returns true, and its argument reads afterwards as it read before; no condition.
-/
import Derived.Test.YtlcebcpciagogaaLaw
import Derived.Test.YtlcebcpciagogaaRows
import Derived.ProofKit
set_option linter.constructorNameAsVariable false
set_option linter.unusedVariables false
set_option linter.unusedSimpArgs false
namespace Go.Soft
open Go Go.ChangeShapes Go.WideShapes

theorem rowAt_off {P : Program} {fits : TypeId → Bool} : ∀ {d : Nat} {e : TypeId} {count off n : Nat}, rowAt P fits d e count off n = true → off ≤ count * P.cellsOf e
  | 0, _, _, _, _, h => by simp [rowAt] at h
  | d + 1, e, count, off, n, h => by
    simp only [rowAt] at h
    by_cases hs : P.cellsOf e = 0
    · simp [hs] at h
    · rw [if_neg hs] at h
      have hdm := Nat.div_add_mod off (P.cellsOf e)
      have hml := Nat.mod_lt off (Nat.pos_of_ne_zero hs)
      simp only [Bool.or_eq_true, Bool.and_eq_true, beq_iff_eq, decide_eq_true_eq] at h
      rcases h with ⟨⟨h1, h2⟩, _⟩ | ⟨h1, _⟩
      · have : off / P.cellsOf e ≤ count := by omega
        have := Nat.mul_le_mul_right (P.cellsOf e) this
        rw [Nat.mul_comm] at hdm; omega
      · have := Nat.mul_le_mul_right (P.cellsOf e) (show off / P.cellsOf e + 1 ≤ count from h1)
        rw [Nat.add_mul] at this
        rw [Nat.mul_comm] at hdm; omega
theorem liesAt_off {P : Program} : ∀ {d : Nat} {e : TypeId} {count off : Nat} {u : TypeId} {n : Nat}, liesAt P d e count off u n = true → off ≤ count * P.cellsOf e
  | 0, _, _, _, _, _, h => by simp [liesAt] at h
  | d + 1, e, count, off, u, n, h => by
    simp only [liesAt, Bool.or_eq_true] at h
    rcases h with h | h
    · exact rowAt_off h
    · revert h; split
      · exact liesAt_off
      · intro h; cases h
theorem has_block {P : Program} {W : World} {r : Reach} {base : Nat} {a : Addr} {e : TypeId} {n : Nat} (h : W.has P r base a e n) : a.spot = none ∧ ∃ cur el fz, W.heap[a.block]? = some (.cells cur el fz) ∧ a.off ≤ cur.size := by
  obtain ⟨_, hs, row, cells, hsh, hl⟩ := h
  refine ⟨hs, ?_⟩
  simp only [World.shape?] at hsh
  cases hb : W.heap[a.block]? with
  | none => rw [hb] at hsh; cases hsh
  | some o =>
    rw [hb] at hsh
    cases o with
    | cells c el fz =>
      simp only [Option.some.injEq, Prod.mk.injEq] at hsh
      obtain ⟨rfl, rfl⟩ := hsh
      refine ⟨c, el, fz, rfl, ?_⟩
      have := liesAt_off hl
      have h2 := Nat.div_mul_le_self c.size (P.cellsOf el)
      omega
    | _ => cases hsh

theorem cells4 {W : World} {a : Addr} {l : List Value} (h : W.cells? 0 a 4 = some l) : ∃ x0 x1 x2 x3, l = [x0, x1, x2, x3] ∧ W.cell? (a.add 0) = some x0 ∧ W.cell? (a.add 1) = some x1 ∧ W.cell? (a.add 2) = some x2 ∧ W.cell? (a.add 3) = some x3 := by
  simp only [World.cells?, Nat.zero_le, if_true] at h
  have e4 : List.range 4 = [0, 1, 2, 3] := rfl
  rw [e4] at h
  simp only [List.mapM_cons, List.mapM_nil, Option.bind_eq_bind, Option.bind_eq_some_iff, Option.pure_def, Option.some.injEq] at h
  obtain ⟨x0, h0, r0, ⟨x1, h1, r1, ⟨x2, h2, r2, ⟨x3, h3, r3, rfl, rfl⟩, rfl⟩, rfl⟩, rfl⟩ := h
  exact ⟨x0, x1, x2, x3, rfl, h0, h1, h2, h3⟩

section
variable {H : Type} {enc : TypeId × Value → H} {P : Program} {W : World}
theorem node_cells {e : TypeId} {f0 f1 f2 f3 : Field} (he : P.underlying e = some (.struct #[f0, f1, f2, f3])) (hc : P.cellsOf e = 4)
    (h0 : f0.offset = 0 ∧ P.underlying f0.type = some .string ∧ P.cellsOf f0.type = 1) (h1 : f1.offset = 1 ∧ P.underlying f1.type = some .bool ∧ P.cellsOf f1.type = 1)
    (h2 : f2.offset = 2 ∧ P.underlying f2.type = some .string ∧ P.cellsOf f2.type = 1) (h3 : f3.offset = 3 ∧ P.underlying f3.type = some .string ∧ P.cellsOf f3.type = 1)
    {spare : Nat → Bool} {held : Bool} {n : Nat} {a : Addr} {y : DataW H × List MemPlace} (h : (W.cells? 0 a 4).bind (DataW.trod enc P W 0 spare held n e) = some y) :
    ∃ x : Node, NOk x ∧ W.cell? (a.add 0) = some (.string x.Path) ∧ W.cell? (a.add 1) = some (.bool x.Dir) ∧ W.cell? (a.add 2) = some (.string x.Head) ∧ W.cell? (a.add 3) = some (.string x.Tail) := by
  rw [Option.bind_eq_some_iff] at h
  obtain ⟨l, hl, hy⟩ := h
  obtain ⟨x0, x1, x2, x3, rfl, c0, c1, c2, c3⟩ := cells4 hl
  obtain ⟨xs, m, _, _, _, hlen, hf⟩ := DataW.trod_struct he hy
  have g : ∀ (i : Nat) (f : Field), (#[f0, f1, f2, f3] : Array Field)[i]? = some f → ∃ z, DataW.trod enc P W 0 spare held m f.type (([x0, x1, x2, x3].drop f.offset).take (P.cellsOf f.type)) = some z := by
    intro i f hif
    have := hf i f hif
    have hi : i < xs.length := by
      have := (Array.getElem?_eq_some_iff.1 hif).1
      rw [hlen]; exact this
    exact ⟨xs[i], by rw [this]; simp [hi]⟩
  obtain ⟨z0, t0⟩ := g 0 f0 rfl
  obtain ⟨z1, t1⟩ := g 1 f1 rfl
  obtain ⟨z2, t2⟩ := g 2 f2 rfl
  obtain ⟨z3, t3⟩ := g 3 f3 rfl
  rw [h0.1, h0.2.2] at t0
  rw [h1.1, h1.2.2] at t1
  rw [h2.1, h2.2.2] at t2
  rw [h3.1, h3.2.2] at t3
  obtain ⟨s0, e0, _, b0⟩ := DataW.trod_string h0.2.1 t0
  obtain ⟨s1, e1, _⟩ := DataW.trod_bool h1.2.1 t1
  obtain ⟨s2, e2, _, b2⟩ := DataW.trod_string h2.2.1 t2
  obtain ⟨s3, e3, _, b3⟩ := DataW.trod_string h3.2.1 t3
  simp only [List.drop_zero, List.drop_succ_cons, List.take_succ_cons, List.take_zero, List.cons.injEq, and_true] at e0 e1 e2 e3
  subst e0; subst e1; subst e2; subst e3
  simp only [maxLen] at b0 b2 b3
  exact ⟨⟨s0, s1, s2, s3⟩, ⟨b0, b2, b3⟩, c0, c1, c2, c3⟩

theorem open_nodes {t e : TypeId} {f0 f1 f2 f3 : Field} (ht : P.underlying t = some (.slice e)) (he : P.underlying e = some (.struct #[f0, f1, f2, f3])) (hc : P.cellsOf e = 4)
    (h0 : f0.offset = 0 ∧ P.underlying f0.type = some .string ∧ P.cellsOf f0.type = 1) (h1 : f1.offset = 1 ∧ P.underlying f1.type = some .bool ∧ P.cellsOf f1.type = 1)
    (h2 : f2.offset = 2 ∧ P.underlying f2.type = some .string ∧ P.cellsOf f2.type = 1) (h3 : f3.offset = 3 ∧ P.underlying f3.type = some .string ∧ P.cellsOf f3.type = 1)
    {base : Nat} {v : Value} {d : DataW H} {ps : List MemPlace} (hval : Value.okWide P W .any base t v) (h : DataW.Trod enc P W 0 (fun _ => true) true t v d ps) :
    ∃ (xs : List Node) (cs : List Value), Vis (fun _ => True) W .node xs v cs ∧ xs.length ≤ 9223372036854775807 ∧ ∀ x ∈ xs, NOk x := by
  classical
  obtain ⟨a0, len, cap, rfl⟩ := okWide_slice ht hval
  obtain ⟨fuel, hf⟩ := h
  rcases DataW.trod_slice ht hf with ⟨hcs, _⟩ | ⟨a, len', cap', elems, rest, n, _, hcs, _, _, hl, hm, hlen, hel, _, _⟩
  · simp [Value.cells] at hcs
    obtain ⟨rfl, rfl, rfl⟩ := hcs
    exact ⟨[], [], ⟨⟨rfl, .inl ⟨rfl, rfl⟩⟩, fun e c ct he => by simp at he⟩, by simp, by simp⟩
  · simp [Value.cells] at hcs
    obtain ⟨rfl, rfl, rfl⟩ := hcs
    have hhas : W.has P .any base a e cap := by
      simp only [Value.okWide, ht, Cell.okWide, Cell.ok] at hval
      exact hval.2.2
    obtain ⟨hspot, cur, el, fz, hb, hoff⟩ := has_block hhas
    obtain ⟨g, off, spot⟩ := a
    simp only at hspot hb hoff; subst hspot
    have node : ∀ i, i < len → ∃ x : Node, NOk x ∧ cur[off + i * 4]? = some (.string x.Path) ∧ cur[off + (i * 4 + 1)]? = some (.bool x.Dir) ∧ cur[off + (i * 4 + 2)]? = some (.string x.Head) ∧ cur[off + (i * 4 + 3)]? = some (.string x.Tail) := by
      intro i hi
      have := hel i hi
      rw [hc, List.getElem?_eq_getElem (by omega)] at this
      obtain ⟨x, hx, c0, c1, c2, c3⟩ := node_cells he hc h0 h1 h2 h3 this
      have hcell : ∀ j, W.cell? (Addr.add (Addr.add ⟨g, off, none⟩ (i * 4)) j) = cur[off + (i * 4 + j)]? := by
        intro j
        rw [Addr_add, Addr_add]
        simp only [World.cell?, hb]
        show cur[off + i * 4 + j]? = _
        rw [Nat.add_assoc]
      rw [hcell] at c0 c1 c2 c3
      exact ⟨x, hx, c0, c1, c2, c3⟩
    let f : Nat → Node := fun i => if hi : i < len then Classical.choose (node i hi) else dNode
    have hfs : ∀ i, i < len → NOk (f i) ∧ cur[off + i * 4]? = some (.string (f i).Path) ∧ cur[off + (i * 4 + 1)]? = some (.bool (f i).Dir) ∧ cur[off + (i * 4 + 2)]? = some (.string (f i).Head) ∧ cur[off + (i * 4 + 3)]? = some (.string (f i).Tail) := by
      intro i hi
      have e : f i = Classical.choose (node i hi) := by show (if hi : i < len then Classical.choose (node i hi) else dNode) = _; rw [dif_pos hi]
      rw [e]; exact Classical.choose_spec (node i hi)
    let xs := (List.range len).map f
    have hxl : xs.length = len := by simp [xs]
    have hsz : off + len * 4 ≤ cur.size := by
      by_cases hl0 : len = 0
      · subst hl0; omega
      · have := (hfs (len - 1) (by omega)).2.2.2.2
        have := (Array.getElem?_eq_some_iff.1 this).1
        omega
    refine ⟨xs, (cur.toList.drop off).take (len * 4), ⟨⟨?_, .inr ⟨g, off, cap, cur, el, fz, by rw [hxl], hb, trivial, by rw [hxl]; exact hl, by rw [hxl]; exact hsz, by rw [hxl]; rfl⟩⟩, fun i c ct hi hct => ?_⟩, by rw [hxl]; simp only [maxLen] at hm; omega, fun x hx => ?_⟩
    · rw [List.length_take, List.length_drop, hxl]; simp only [sz, Array.length_toList]; omega
    · rw [hxl] at hi
      have hget : xs.getD i (dflt .node) = f i := by simp [xs, hi]
      rw [hget] at hct
      obtain ⟨_, d0, d1, d2, d3⟩ := hfs i hi
      have hcur : ∀ j, j < 4 → ((cur.toList.drop off).take (len * 4))[i * 4 + j]? = cur[off + (i * 4 + j)]? := by
        intro j hj
        rw [List.getElem?_take, if_pos (by omega), List.getElem?_drop]; simp
      simp only [cells] at hct
      have hc4 : c < 4 := by have := (List.getElem?_eq_some_iff.1 hct).1; simpa using this
      show ∃ u, ((cur.toList.drop off).take (len * 4))[i * 4 + c]? = some u ∧ _
      rw [hcur c hc4]
      match c, hc4, hct with
      | 0, _, hct => simp at hct; subst hct; exact ⟨_, d0, rfl⟩
      | 1, _, hct => simp at hct; subst hct; exact ⟨_, d1, rfl⟩
      | 2, _, hct => simp at hct; subst hct; exact ⟨_, d2, rfl⟩
      | 3, _, hct => simp at hct; subst hct; exact ⟨_, d3, rfl⟩
    · obtain ⟨i, hi, rfl⟩ := List.mem_map.1 hx
      exact (hfs i (List.mem_range.1 hi)).1
end

/-- the law, as the program's function -/
theorem calls_law (W : World) (v : Value) (xs : List Node) (cs : List Value) (hv : Vis (fun _ => True) W .node xs v cs) (hl : xs.length ≤ 9223372036854775807) (hx : ∀ x ∈ xs, NOk x) :
    Calls Go.Proofs.Try.prog 3 #[v] W fun e W' => e = .returned (.bool true) ∧ Go.RowKit.Below W.heap.size W W' := by
  have hfn := ok_w_FnExactShowTree (R := Unit) () (xs.length + 1)
  let γ : Gh := ⟨fun _ => none, fun _ => v, fun _ => cs, fun _ => 0⟩
  have hpre : Pre X sg_w_FnExactShowTree [.c (.l .node xs)] [] γ W [v] := by
    refine ⟨⟨fun k cs hk => (by cases hk), fun k row hk => ?_⟩, fun _ _ => rfl, .cons ⟨⟨⟨.node, xs, 1⟩, rfl⟩, rfl⟩ .nil⟩
    have hk : lk [(100000, (⟨.node, xs, 1⟩ : Row))] k = some row := hk
    simp only [lk] at hk
    cases hb : Nat.beq 100000 k with
    | false => rw [hb] at hk; cases hk
    | true =>
      rw [hb] at hk; cases hk
      have := nat_beq hb; subst this
      refine ⟨hv.top.mono fun g o hg _ => ⟨hg, .inl rfl⟩, fun e c ct he hc => ?_⟩
      obtain ⟨u, hu, hr⟩ := hv.cel e c ct he hc
      refine ⟨u, hu, ?_⟩
      cases ct with
      | u => exact hr
      | l σ ys => exact ⟨hr.1, hr.2.mono fun g o hg _ => ⟨hg, .inl rfl⟩⟩
      | _ => exact hr
  have hrun : ∀ k : CR → Option Unit, funOf (R := Unit) as_w_FnExactShowTree vs_w_FnExactShowTree (g_w_FnExactShowTree (xs.length + 1)) [.c (.l .node xs)] [] k = k ⟨.c (.c (.b true)), [], []⟩ := by
    intro k
    show w_FnExactShowTree (xs.length + 1) xs (fun (r0 : Bool) => k ⟨.c (.c (.b r0)), [], []⟩) = _
    rw [law (xs.length + 1) xs hx hl (by omega)]
  refine (hfn.ok _ _ _ hrun γ W [v] hpre).mono ?_
  rintro e w' ⟨u, rfl, O, ka, kb, kc, hfr, _, hres, _, _⟩
  obtain ⟨_, hu⟩ := hres
  refine ⟨by rw [hu]; rfl, hfr.os, hfr.tape, hfr.output, hfr.size, fun b hb => (hfr.blk b hb (.inl rfl)).2⟩
end Go.Soft

namespace Go.Proofs.Ytlcebcpciagogaa
open Go.ChangeShapes Go.WideShapes Go.ChangeAt Go.RowKit Go.Soft

theorem Try.own : ownKnob Try.prog.godebug = none := by kernel_rfl
theorem Try.laidOut : laidOutB Try.prog = true := by kernel_rfl

set_option maxRecDepth 100000 in
theorem lifted (os : Os) (started : os.Started) (H : Type) (enc : TypeId × Value → H) :
    ReturnsInHanded {} Try.checked os 3 .any (Rows.fnExactShowTreeSpec.pre6 enc Try.prog Try.f3 Rows.fnExactShowTreeRow.domain false) (Rows.fnExactShowTreeSpec.post enc Try.prog Try.f3 false true false false) := by
  refine returnsInHanded_of_change (C := Try.checked) Try.own started (by kernel_rfl) Try.func3
    (ChangeSpec.witness6 (enc := enc) (C := Try.checked) false ⟨#[], #[.slice none 0 0], []⟩ 8 (by kernel_rfl) (by kernel_rfl) (by kernel_rfl) (by kernel_rfl)) ?_
  intro W base args ds gs before hval0 hW hcnd _
  have hval : ∀ (j : Nat) t v, Try.f3.params[j]? = some t → args[j]? = some v → Value.okWide Try.prog W .any base t v := hval0
  have hW' := hW
  obtain ⟨p, q, hA0, hV, rfl, hfz, hnd⟩ := hW
  have hA : DataW.TrodAll enc Try.prog W 0 (fun _ => true) true Try.f3.params.toList args.toList ds p := hA0
  rw [Try.params3] at hA hval
  obtain ⟨v0, d0, rfl, rfl, h0⟩ := trodAll_one hA
  obtain ⟨rfl, rfl⟩ := trodVars_none hV
  obtain ⟨xs, cs, hvis, hl, hx⟩ := open_nodes Try.underlying22 Try.underlying31 (by kernel_rfl) ⟨rfl, Try.underlying9, by kernel_rfl⟩ ⟨rfl, Try.underlying4, by kernel_rfl⟩ ⟨rfl, Try.underlying9, by kernel_rfl⟩ ⟨rfl, Try.underlying9, by kernel_rfl⟩ (hval 0 22 v0 rfl rfl) h0
  simp only [List.append_nil] at hW'
  have hlt : ∀ x ∈ p, x.block < W.heap.size := fun x hx => by simpa using hW'.lt x hx
  refine (calls_law W v0 xs cs hvis hl hx).mono fun e W' ⟨he, hb⟩ => ?_
  subst he
  exact ⟨_, rfl, _, _, _, [], p, [], hW', trodAll_mk1 (shut_bool Try.underlying4 true), trodAll_mk1 (Below.trod Try.laidOut (by kernel_rfl) (of_decide_eq_true (by kernel_rfl)) h0 hb hlt), rfl, hb.frame _, fun h => by cases h⟩

theorem showTree_holds : Rows.FnExactShowTreeSaid :=
  OpenClaim.holds_of_wide 3 Try.f3 rfl rfl rfl rfl rfl rfl rfl ⟨rfl, rfl, rfl, rfl, rfl⟩ rfl rfl rfl rfl rfl (by kernel_rfl) Try.func3 (by kernel_rfl)
    (of_decide_eq_true (by kernel_rfl)) (by unfold Func.isWrapper; first | (rw [if_pos (by decide +kernel)]; kernel_rfl) | (rw [if_neg (by decide +kernel)]; exact ⟨rfl, rfl⟩))
    (fun os started H enc _ => lifted os started H enc)
end Go.Proofs.Ytlcebcpciagogaa
