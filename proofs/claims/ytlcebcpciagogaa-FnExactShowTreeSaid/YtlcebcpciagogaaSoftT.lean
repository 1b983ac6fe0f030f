/-
  SoftT: a call.
-/
import Derived.Test.YtlcebcpciagogaaSoftS
set_option linter.constructorNameAsVariable false
set_option linter.unusedSimpArgs false
set_option linter.unusedVariables false
namespace Go.Soft
open Go
variable {X : Ctx} {m M : Lk} {γ γ' : Gh} {w w' : World} {ρ : Operand → Value} {S : St} {δ : Dl}

theorem resA_ok {c : CallI} {args : List Value} (h : c.Ent X S γ w args) {K : List Nat} {O : OM} {w1 : World} {f : Cv → Cv} {d : Nat} {res : RC} {v : Value} {ks : List Nat}
    (hr : RelRes X (entry c.g c.ar.acs c.vin).lk (c.gh X γ w args) K O w1 c.g.rl res v ks) {av : AV} {rs : List (Nat × Row)} {vn : List (Nat × List Cv)} (hres : resA f c.avs c.ar.imm c.g.rl d res = some (av, rs, vn)) :
    ∃ V G, keys G = ks ∧ NewRows X (c.ar.imm = true) (fun g => ∃ r, r ∉ K ∧ Fam r (O g)) O w1 rs V G ∧ (∀ x ∈ keys rs, x ∈ res.keys d) ∧
      ((vn = [] ∧ (∀ l, res ≠ .np l) ∧ ∀ m' γ', Fits m' γ' rs V → (∀ x v, RelC S.lk γ x v → RelC m' γ' (f x) v) → RelA m' γ' av v) ∨
       ∃ (l : List Rc) (cs : List Cv) (cv g : Nat) (cur : Array Value) (e : TypeId), res = .np l ∧ vn = [(1000 + d, cs)] ∧ av = .c (.pv (1000 + d) 0) ∧ 1000 ≤ cv ∧ v = .pointer (some ⟨g, 0, none⟩) ∧ O g = some (.v cv) ∧
         w1.heap[g]? = some (.cells cur e (0, 0)) ∧ ∀ m' γ', Fits m' γ' rs V → (∀ x v, RelC S.lk γ x v → RelC m' γ' (f x) v) → RelL m' γ' cs cur.toList) := by
  cases res with
  | u =>
    obtain ⟨rfl, rfl⟩ := hr
    simp only [resA, Option.some.injEq, Prod.mk.injEq] at hres
    obtain ⟨rfl, rfl, rfl⟩ := hres
    exact ⟨[], [], rfl, .nil, by simp [keys], .inl ⟨rfl, by simp, fun _ _ _ _ => ⟨[], rfl, .nil⟩⟩⟩
  | c x =>
    simp only [resA] at hres
    cases h1 : resCs f c.avs c.ar.imm (d * 64) (hdL c.g.rl) [x] with
    | none => simp [h1] at hres
    | some p =>
      obtain ⟨cs, rs1⟩ := p
      have hr1 : RelRcs X (entry c.g c.ar.acs c.vin).lk (c.gh X γ w args) K O w1 (hdL c.g.rl) [x] [v] (ks ++ []) := .cons hr .nil
      obtain ⟨V, G, g1, g2, g3, g4⟩ := resCs_ok h hr1 h1
      simp only [h1] at hres
      revert hres; split
      · rename_i heq
        simp only [Option.some.injEq, Prod.mk.injEq] at heq
        obtain ⟨rfl, rfl⟩ := heq
        intro hres
        simp only [Option.some.injEq, Prod.mk.injEq] at hres
        obtain ⟨rfl, rfl, rfl⟩ := hres
        refine ⟨V, G, by simpa using g1, g2, fun y hy => ?_, .inl ⟨rfl, by simp, fun m' γ' hF hk => ?_⟩⟩
        · have := g3 y hy
          simp only [RC.keys, List.mem_singleton]
          simp at this; omega
        · have := g4 m' γ' hF hk
          cases this with
          | cons hx _ => exact RelA.of hx
      · intro hres; cases hres
  | a l =>
    obtain ⟨us, rfl, hr⟩ := hr
    simp only [resA] at hres
    cases h1 : resCs f c.avs c.ar.imm (d * 64) (hdL c.g.rl) l with
    | none => simp [h1] at hres
    | some p =>
      obtain ⟨cs, rs1⟩ := p
      simp only [h1, Option.some.injEq, Prod.mk.injEq] at hres
      obtain ⟨rfl, rfl, rfl⟩ := hres
      obtain ⟨V, G, g1, g2, g3, g4⟩ := resCs_ok h hr h1
      refine ⟨V, G, g1, g2, fun y hy => ?_, .inl ⟨rfl, by simp, fun m' γ' hF hk => ⟨us, rfl, g4 m' γ' hF hk⟩⟩⟩
      simp only [RC.keys, rcsN_len, upK_mem]; exact g3 y hy
  | t l =>
    obtain ⟨us, rfl, hr⟩ := hr
    simp only [resA] at hres
    cases h1 : resTs f c.avs c.ar.imm (d * 64) c.g.rl l with
    | none => simp [h1] at hres
    | some p =>
      obtain ⟨ts, rs1⟩ := p
      simp only [h1, Option.some.injEq, Prod.mk.injEq] at hres
      obtain ⟨rfl, rfl, rfl⟩ := hres
      obtain ⟨V, G, g1, g2, g3, g4⟩ := resTs_ok h hr h1
      refine ⟨V, G, g1, g2, fun y hy => ?_, .inl ⟨rfl, by simp, fun m' γ' hF hk => ⟨us, rfl, g4 m' γ' hF hk⟩⟩⟩
      simp only [RC.keys, upK_mem]; exact g3 y hy
  | np l =>
    obtain ⟨cv, g, cur, e, hcv, rfl, hO, hcur, hr⟩ := hr
    simp only [resA] at hres
    cases h1 : resCs f c.avs c.ar.imm (d * 64) (hdL c.g.rl) l with
    | none => simp [h1] at hres
    | some p =>
      obtain ⟨cs, rs1⟩ := p
      simp only [h1, Option.some.injEq, Prod.mk.injEq] at hres
      obtain ⟨rfl, rfl, rfl⟩ := hres
      obtain ⟨V, G, g1, g2, g3, g4⟩ := resCs_ok h hr h1
      refine ⟨V, G, g1, g2, fun y hy => ?_, .inr ⟨l, cs, cv, g, cur, e, rfl, rfl, rfl, hcv, rfl, hO, hcur, g4⟩⟩
      simp only [RC.keys, rcsN_len, upK_mem]; exact g3 y hy

/-! ### lookups -/
theorem lkZ_somes : ∀ {l : List (Nat × Row)}, (keys l).Nodup → ∀ k, lkZ (somes l) k = (lk l k).map some
  | [], _, k => rfl
  | (j, r) :: l, hn, k => by
    simp only [keys, List.nodup_cons] at hn
    simp only [somes, lkZ, lkZ_somes hn.2, lk]
    cases hj : Nat.beq j k with
    | true =>
      have := nat_beq hj; subst this
      rw [lk_none.2 hn.1]; simp
    | false =>
      have : j ≠ k := by rintro rfl; rw [Nat.beq_refl] at hj; cases hj
      cases lk l k <;> simp [this]
theorem somes_append (a b : List (Nat × Row)) : somes (a ++ b) = somes a ++ somes b := by
  induction a with
  | nil => rfl
  | cons p a ih => obtain ⟨k, r⟩ := p; simp [somes, ih]
theorem lkZ_nones (l : List Nat) (k : Nat) : lkZ (nones l) k = if k ∈ l then some none else none := by
  induction l with
  | nil => rfl
  | cons j l ih =>
    simp only [nones, lkZ, ih, List.mem_cons]
    by_cases h : k ∈ l
    · simp [h]
    · by_cases hj : j = k
      · subst hj; simp [h]
      · simp [h, hj, Ne.symm hj]
theorem lkZ_frz (m : Lk) : ∀ (l : List Nat) (k : Nat), lkZ (m.frz l) k = if k ∈ l then (m.r k).map (fun row => some { row with ow := 3 }) else none
  | [], k => rfl
  | j :: l, k => by
    have ih := lkZ_frz m l k
    simp only [Lk.frz]
    cases hj : m.r j with
    | none =>
      simp only [ih, List.mem_cons]
      by_cases h : k ∈ l
      · simp [h]
      · by_cases hjk : k = j
        · subst hjk; simp [h, hj]
        · simp [h, hjk]
    | some row =>
      simp only [lkZ, ih, List.mem_cons]
      by_cases h : k ∈ l
      · simp only [h, if_true, or_true]
        cases hk : m.r k with
        | some r => rfl
        | none =>
          have : j ≠ k := by rintro rfl; rw [hj] at hk; cases hk
          simp [this]
      · by_cases hjk : j = k
        · subst hjk; simp [h, hj]
        · simp [h, hjk, Ne.symm hjk]


theorem mem_of_lk {α : Type} {l : List (Nat × α)} {k : Nat} (h : k ∈ keys l) : ∃ v, lk l k = some v := by
  cases hl : lk l k with
  | some v => exact ⟨v, rfl⟩
  | none => exact absurd h (lk_none.1 hl)
theorem keys_mem {α : Type} {l : List (Nat × α)} {k : Nat} (h : k ∈ keys l) : ∃ v, (k, v) ∈ l := by
  obtain ⟨v, hv⟩ := mem_of_lk h; exact ⟨v, lk_mem hv⟩

theorem allLt_iff {n : Nat} : ∀ {l : List Nat}, allLt n l = true ↔ ∀ x ∈ l, x < n
  | [] => by simp [allLt]
  | y :: l => by
    simp only [allLt, Bool.and_eq_true, allLt_iff, List.mem_cons, forall_eq_or_imp]
    have : Nat.blt y n = true ↔ y < n := by
      show Nat.ble (y + 1) n = true ↔ y < n
      exact ⟨fun h => Nat.le_of_ble_eq_true h, fun h => Nat.ble_eq_true_of_le h⟩
    rw [this]
theorem hVc_new {f : Cv → Cv} {v key : Nat} : ∀ {cs : List Cv} {ms : List Nat} {j j' : Nat} {ys : List Ct} {cs' : List Cv} {rs : List (Nat × Row)}, cellsNew f v j ms cs ys = some (cs', rs) → ∀ x ∈ keys (hVc key ms j' cs), x ∈ keys rs
  | [], ms, j, j', ys, cs', rs, h, x, hx => by simp [hVc, keys] at hx
  | c :: cs, ms, j, j', ys, cs', rs, h, x, hx => by
    cases ys with
    | nil => simp [cellsNew] at h
    | cons y ys =>
      simp only [cellsNew] at h
      cases hrest : cellsNew f v (j + 1) (tl ms) cs ys with
      | none => simp [hrest] at h
      | some p =>
        obtain ⟨cs2, rs2⟩ := p
        simp only [hrest] at h
        have ih := hVc_new (key := key) (j' := j' + 1) hrest
        simp only [hVc, keys_append, List.mem_append] at hx
        rcases hn : hd ms with _ | _ | n
        · simp only [hn] at h hx
          cases hf : flatC y with
          | none => simp [hf] at h
          | some z =>
            simp only [hf, Option.some.injEq, Prod.mk.injEq] at h
            rw [← h.2]
            rcases hx with hx | hx
            · simp [keys] at hx
            · exact ih x hx
        · simp only [hn, Option.some.injEq, Prod.mk.injEq] at h hx
          rw [← h.2]
          rcases hx with hx | hx
          · simp [keys] at hx
          · exact ih x hx
        · simp only [hn] at h hx
          cases y with
          | l τ xs =>
            simp only at h
            cases c with
            | sw r =>
              simp only [Option.some.injEq, Prod.mk.injEq] at h
              rw [← h.2]
              simp only [keys, List.mem_cons, List.not_mem_nil, or_false] at hx ⊢
              rcases hx with hx | hx
              · exact .inl hx
              · exact .inr (ih x hx)
            | _ =>
              simp only [Option.some.injEq, Prod.mk.injEq] at h
              rw [← h.2]
              simp only [keys, List.mem_cons, List.not_mem_nil, or_false, false_or] at hx ⊢
              exact .inr (ih x hx)
          | _ => simp at h
theorem hVars_new {f : Cv → Cv} : ∀ {κ : List Nat} {vl : List (List Nat)} {k : Nat} {vo : List (List Ct)} {vs : List (Nat × List Cv)} {rs : List (Nat × Row)}, m.varsNew f vl κ vo = some (vs, rs) → ∀ x ∈ keys (hVars m k vl κ), x ∈ keys rs
  | [], vl, k, vo, vs, rs, h, x, hx => by simp [hVars, keys] at hx
  | v :: κ, vl, k, vo, vs, rs, h, x, hx => by
    cases vo with
    | nil => simp [Lk.varsNew] at h
    | cons l vo =>
      simp only [Lk.varsNew] at h
      cases hv : m.v v with
      | none => simp [hv] at h
      | some cs =>
        cases h1 : cellsNew f v 0 (hdL vl) cs l with
        | none => simp [hv, h1] at h
        | some p =>
          cases h2 : m.varsNew f (tl vl) κ vo with
          | none => simp [hv, h1, h2] at h
          | some q =>
            obtain ⟨a1, r1⟩ := p
            obtain ⟨b1, q1⟩ := q
            simp only [hv, h1, h2, Option.some.injEq, Prod.mk.injEq] at h
            rw [← h.2]
            simp only [hVars, hv, keys_append, List.mem_append] at hx ⊢
            rcases hx with hx | hx
            · exact .inl (hVc_new h1 x hx)
            · exact .inr (hVars_new h2 x hx)
theorem ioNew_keys : ∀ {l : List Nat} {ys : List Ct} {q : List (Nat × Row)}, m.ioNew l ys = some q → keys q = l
  | [], ys, q, h => by
    cases ys with
    | nil => simp only [Lk.ioNew, Option.some.injEq] at h; subst h; rfl
    | cons => simp [Lk.ioNew] at h
  | r :: l, ys, q, h => by
    cases ys with
    | nil => simp [Lk.ioNew] at h
    | cons y ys =>
      cases y with
      | l τ xs =>
        simp only [Lk.ioNew] at h
        cases hr : m.r r with
        | none => simp [hr] at h
        | some row =>
          cases h2 : m.ioNew l ys with
          | none => simp [hr, h2] at h
          | some q2 =>
            simp only [hr, h2] at h
            revert h; split
            · intro h; simp only [Option.some.injEq] at h; subst h; simp [keys, ioNew_keys h2]
            · intro h; cases h
      | _ => simp [Lk.ioNew] at h

def npVb (npv : Option (Nat × Nat)) (n : Nat) (vb : Nat → Nat) (k : Nat) : Nat := match npv with | some (_, g) => if k = n then g else vb k | none => vb k
def npV (npv : Option (Nat × Nat)) (n k : Nat) : Option Ow := match npv with | some (cv, _) => if k = cv then some (.v n) else none | none => none
/-- what the caller's state is behind a call -/
theorem call_ok {c : CallI} {args : List Value} (h : c.Ent X S γ w args) {cr : CR} {v : Value} {w1 : World} (hp : Post X c.g c.ar.acs c.vin (c.gh X γ w args) w cr v w1) {d : Nat} (hd : d < 1500) {av : AV}
    (ha : c.m.after c.g c.avs c.ar cr c.ow d = some (av, δ)) : ∃ γ', Step X S γ w δ γ' w1 ∧ RelA (S.app δ).lk γ' av v := by
  obtain ⟨O1, ka, kb, kc, hfr, hnd, hres, hvo, hio⟩ := hp
  have hf := h.ok.fact
  have hai := args_inv c.avs c.g.am [] 0 c.ar h.ok.args
  simp only [Lk.after] at ha
  obtain ⟨δ0, hδ0⟩ : ∃ δ0, c.m.dl0 c.ar cr.res c.ow d = δ0 := ⟨_, rfl⟩
  rw [hδ0] at ha
  cases h1 : c.m.varsNew δ0.map c.g.vl c.ar.κ cr.vo with
  | none => simp [h1] at ha
  | some p1 =>
    obtain ⟨vs, r1⟩ := p1
    cases h2 : c.m.ioNew c.ar.io cr.io with
    | none => simp [h1, h2] at ha
    | some r2 =>
      cases h3 : resA δ0.map c.avs c.ar.imm c.g.rl d cr.res with
      | none => simp [h1, h2, h3] at ha
      | some p3 =>
        obtain ⟨av', r3, vn⟩ := p3
        simp only [h1, h2, h3] at ha
        cases hn1 : nodupN (c.ar.gone ++ (keys r1 ++ (keys r2 ++ keys r3))) && allLt 100000 (cr.res.keys d) with
        | false => simp [hn1] at ha
        | true =>
          cases hn2 : disjN c.ar.fz (keys r1 ++ (keys r2 ++ keys r3)) with
          | false => simp [hn1, hn2] at ha
          | true =>
            simp only [hn1, hn2, Option.some.injEq, Prod.mk.injEq] at ha
            obtain ⟨rfl, hδ⟩ := ha
            simp only [Bool.and_eq_true] at hn1
            obtain ⟨hn1, hn3⟩ := hn1
            have hn1 := nodupN_iff.1 hn1
            have hn2 := disjN_iff.1 hn2
            -- the parts
            let K := ka ++ (kb ++ kc)
            let A : Nat → Prop := fun g => ∃ r, r ∉ K ∧ Fam r (O1 g)
            obtain ⟨V3, G3, g3, n3, k3, hav⟩ := resA_ok h hres h3
            obtain ⟨V1, G1, g1, n1, kvs, k1, o1, q1⟩ := varsNew_ok (I := c.ar.imm = true) (A := A) h hvo (fun i => by simp) rfl h1
            have hio' : keys (hIo (c.g.am.drop 0) 0 c.avs) = c.ar.io := hai.io
            obtain ⟨V2, G2, g2, n2, o2, q2⟩ := ioNew_ok (I := c.ar.imm = true) (A := A) h hio (fun i => by simp) (fun i => by simp) hai.len (by rw [hio']; exact h2)
            let N := r1 ++ (r2 ++ r3)
            let V := V1 ++ (V2 ++ V3)
            have hN : NewRows X (c.ar.imm = true) A O1 w1 N V (G1 ++ (G2 ++ G3)) := n1.append (n2.append n3)
            have hkN : keys N = keys r1 ++ (keys r2 ++ keys r3) := by simp only [N, keys_append]
            have hkV : keys V = keys N := hN.keys
            have hNnd : (keys N).Nodup := by rw [hkN]; exact (List.nodup_append.1 hn1).2.1
            have hgN : ∀ k, k ∈ c.ar.gone → k ∉ keys N := fun k hk hk' => by rw [hkN] at hk'; exact (List.nodup_append.1 hn1).2.2 k hk k hk' rfl
            have hfN : ∀ k, k ∈ c.ar.fz → k ∉ keys N := fun k hk => by rw [hkN]; exact hn2 k hk
            -- keys of what comes back
            let G := G1 ++ (G2 ++ G3)
            have hGk : ∀ k, k ∈ keys G ↔ k ∈ K := by
              intro k; simp only [G, K, keys_append, g1, g2, g3, List.mem_append]
              constructor
              · rintro (h | h | h)
                · exact .inr (.inl h)
                · exact .inr (.inr h)
                · exact .inl h
              · rintro (h | h | h)
                · exact .inr (.inr h)
                · exact .inl h
                · exact .inr (.inl h)
            have hGnd : (keys G).Nodup := by
              simp only [G, keys_append, g1, g2, g3]
              simp only [List.nodup_append, List.mem_append] at hnd ⊢
              obtain ⟨na, ⟨nb, nc, nbc⟩, nabc⟩ := hnd
              refine ⟨nb, ⟨nc, na, fun x hx y hy e => nabc y hy x (.inr hx) e.symm⟩, fun x hx y hy e => ?_⟩
              rcases hy with hy | hy
              · exact nbc x hx y hy e
              · exact nabc y hy x (.inl hx) e.symm
            -- the change
            have hmap : δ.map = δ0.map := by rw [← hδ]; funext x; cases x <;> rfl
            have hvsδ : δ.vs = vs ++ vn := by rw [← hδ]
            have hkr : δ.kr = c.ar.gone ++ (c.ow ++ (cr.res.keys d ++ c.m.homesOf c.ar.κ)) := by rw [← hδ, ← hδ0]; rfl
            have hke : δ.ke = c.ar.io := by rw [← hδ, ← hδ0]; rfl
            have hkvδ : δ.kv = cr.res.kv d := by rw [← hδ, ← hδ0]; rfl
            have hmv : δ.mv = [] := by rw [← hδ, ← hδ0]; rfl
            have hkn : δ.kn = [] := by rw [← hδ, ← hδ0]; rfl
            have hlk : ∀ k, lkZ δ.rs k = match lk N k with | some row => some (some row) | none => if k ∈ c.ar.fz then (c.m.r k).map (fun row => some { row with ow := 3 }) else if k ∈ c.ar.gone then some none else none := by
              intro k
              rw [← hδ]
              show lkZ (nones c.ar.gone ++ (c.m.frz c.ar.fz ++ (somes r1 ++ (somes r2 ++ somes r3)))) k = _
              rw [← somes_append, ← somes_append, lkZ_append, lkZ_append, lkZ_somes hNnd, lkZ_frz, lkZ_nones]
              cases hl : lk N k with
              | some row => simp
              | none =>
                simp only [Option.map_none]
                by_cases hk : k ∈ c.ar.fz
                · obtain ⟨row, hr, _⟩ := hai.fzr k hk
                  simp [hk, hr]
                · simp [hk]
            -- the ghosts behind
            obtain ⟨npv, hnpv⟩ : ∃ npv : Option (Nat × Nat), (npv = none → vn = [] ∧ cr.res.kv d = [] ∧ ∀ m' γ', Fits m' γ' r3 V3 → (∀ x v, RelC S.lk γ x v → RelC m' γ' (δ0.map x) v) → RelA m' γ' av' v) ∧
                ∀ cv g, npv = some (cv, g) → ∃ (cs : List Cv) (cur : Array Value) (e : TypeId), vn = [(1000 + d, cs)] ∧ cr.res.kv d = [1000 + d] ∧ av' = .c (.pv (1000 + d) 0) ∧ 1000 ≤ cv ∧ v = .pointer (some ⟨g, 0, none⟩) ∧ O1 g = some (.v cv) ∧
                  w1.heap[g]? = some (.cells cur e (0, 0)) ∧ ∀ m' γ', Fits m' γ' r3 V3 → (∀ x v, RelC S.lk γ x v → RelC m' γ' (δ0.map x) v) → RelL m' γ' cs cur.toList := by
              rcases hav with ⟨hv1, hv2, hv3⟩ | ⟨l, cs, cv, g, cur, e, e1, e2, e3, e4, e5, e6, e7, e8⟩
              · refine ⟨none, fun _ => ⟨hv1, ?_, hv3⟩, fun _ _ h => by cases h⟩
                cases hcr : cr.res <;> first | rfl | exact absurd hcr (hv2 _)
              · refine ⟨some (cv, g), fun h => (by cases h), fun _ _ h => ?_⟩
                simp only [Option.some.injEq, Prod.mk.injEq] at h
                obtain ⟨rfl, rfl⟩ := h
                exact ⟨cs, cur, e, e2, by rw [e1]; rfl, e3, e4, e5, e6, e7, e8⟩
            let a : Rb := ⟨fun r => lk G r, none, fun k => if k < 1000 then (c.ar.κ[k]?).map Ow.v else npV npv (1000 + d) k⟩
            let first : Nat → Prop := fun g => g < w.heap.size ∧ (c.O γ g = none ∨ c.O γ g = some .x)
            have hdec : ∃ O' : OM, (∀ g, first g → O' g = γ.O g) ∧ ∀ g, ¬ first g → O' g = (O1 g).bind a.f := by
              classical
              refine ⟨fun g => if first g then γ.O g else (O1 g).bind a.f, fun g hg => if_pos hg, fun g hg => if_neg hg⟩
            obtain ⟨O', hO1', hO2'⟩ := hdec
            let γ' : Gh := ⟨O', fun k => match lk V k with | some p => p.1 | none => γ.rv k, fun k => match lk V k with | some p => p.2 | none => γ.cv k, npVb npv (1000 + d) γ.vb⟩
            have hVnone : ∀ k, k ∉ keys N → lk V k = none := fun k hk => lk_none.2 (by rw [hkV]; exact hk)
            have hrvN : ∀ k, k ∉ keys N → γ'.rv k = γ.rv k ∧ γ'.cv k = γ.cv k := by
              intro k hk
              constructor
              · show (match lk V k with | some p => p.1 | none => γ.rv k) = _; rw [hVnone k hk]
              · show (match lk V k with | some p => p.2 | none => γ.cv k) = _; rw [hVnone k hk]
            -- what was there
            have hblk : ∀ g, g < w.heap.size → (c.O γ g = none ∨ c.O γ g = some .fz ∨ c.O γ g = some .x) → O1 g = c.O γ g ∧ w1.heap[g]? = w.heap[g]? := fun g hg ho => hfr.blk g hg ho
            have hfz1 : ∀ g, g < w.heap.size → c.O γ g = some .fz → O' g = some .fz := by
              intro g hg ho
              have hnf : ¬ first g := by rintro ⟨_, h | h⟩ <;> rw [ho] at h <;> cases h
              rw [hO2' g hnf, (hblk g hg (.inr (.inl ho))).1, ho]; rfl
            have hOc : ∀ g, c.O γ g = (γ.O g).bind c.rb.f := fun _ => rfl
            -- rows that stay
            have hstay : ∀ k row, S.lk.r k = some row → lk c.H k = none → k ∉ c.ar.fz → RowR X O' w1 k row (γ.rv k) (γ.cv k) := by
              intro k row hk hH hkf
              have hor : c.rb.r k = none ∨ c.rb.r k = some (0, 1) := by
                simp only [CallI.rb, hH, if_neg hkf]
                split
                · exact .inr rfl
                · exact .inl rfl
              have htn : ∀ x, (∃ e c', x = Ow.n k e c') ∨ x = .r k → c.rb.f x = none ∨ c.rb.f x = some .x := by
                rintro x (⟨e, c', rfl⟩ | rfl)
                · rcases hor with h | h <;> simp only [Rb.f, h]
                  · exact .inr rfl
                  · exact .inl rfl
                · rcases hor with h | h <;> simp only [Rb.f, h]
                  · exact .inr rfl
                  · exact .inl rfl
              refine row_same (h.rel.rs k row hk) fun g o hg hi => ?_
              have hlt := lt_of_some hg
              rcases InR_cases hi with h0 | h0 | ⟨h0, _⟩ | ⟨e, c', h0, _⟩
              · have hc0 : c.O γ g = none := by rw [hOc, h0]; rfl
                exact ⟨((hblk g hlt (.inl hc0)).2).trans hg, hO1' g ⟨hlt, .inl hc0⟩⟩
              · have hc0 : c.O γ g = some .fz := by rw [hOc, h0]; rfl
                exact ⟨((hblk g hlt (.inr (.inl hc0))).2).trans hg, by rw [hfz1 g hlt hc0, h0]⟩
              · have hc0 : c.O γ g = none ∨ c.O γ g = some .x := by rw [hOc, h0]; exact htn _ (.inr rfl)
                exact ⟨((hblk g hlt (hc0.elim .inl fun h => .inr (.inr h))).2).trans hg, hO1' g ⟨hlt, hc0⟩⟩
              · have hc0 : c.O γ g = none ∨ c.O γ g = some .x := by rw [hOc, h0]; exact htn _ (.inl ⟨e, c', rfl⟩)
                exact ⟨((hblk g hlt (hc0.elim .inl fun h => .inr (.inr h))).2).trans hg, hO1' g ⟨hlt, hc0⟩⟩
            have hin3 : ∀ {r ow : Nat} {o : Option Ow}, (ow = 3 ∨ ow = 4 ∨ ow = 5) → InR r ow o → o = some .fz ∨ (o = some (.r r) ∧ ownK ow = true) ∨ ∃ e c, o = some (.n r e c) ∧ ow = 5 := by
              intro r ow o ho hi
              rcases InR_cases hi with h0 | h0 | h0 | h0
              · exfalso; subst h0
                rcases hi with h | ⟨e, c', h⟩ <;> rcases ho with rfl | rfl | rfl <;> cases h
              · exact .inl h0
              · exact .inr (.inl h0)
              · exact .inr (.inr h0)
            -- rows that are frozen now
            have hfrz : ∀ k row, k ∈ c.ar.fz → c.m.r k = some row → RowR X O' w1 k { row with ow := 3 } (γ.rv k) (γ.cv k) := by
              intro k row hk hr
              obtain ⟨row2, hr2, hle⟩ := hai.fzr k hk
              rw [hr] at hr2; cases hr2
              have ho : row.ow = 3 ∨ row.ow = 4 ∨ row.ow = 5 := by
                rcases leK_inv hle with h | ⟨h, _⟩ | ⟨_, h⟩ | ⟨h, _⟩ | ⟨h, _⟩ <;> first | exact h | cases h
              have := (h.rel.rs k row (h.le.r _ _ hr)).relabel (a := c.rb) (O' := O') (w' := w1) (fun _ => hf.fz k hk) hle (fun g o hg hi => by
                have hlt := lt_of_some hg
                have hc0 : c.O γ g = some .fz := by
                  rw [hOc]
                  rcases hin3 ho hi with h0 | ⟨h0, _⟩ | ⟨e, c', h0, _⟩ <;> rw [h0]
                  · rfl
                  · show c.rb.f (.r k) = _; simp only [Rb.f, hf.fz k hk]; rfl
                  · show c.rb.f (.n k e c') = _; simp only [Rb.f, hf.fz k hk]; rfl
                exact ⟨((hblk g hlt (.inr (.inl hc0))).2).trans hg, by rw [hfz1 g hlt hc0, ← hOc, hc0]⟩)
              exact ⟨this.top, this.cel⟩
            -- rows that are new
            have hnew := hN.row (a := a) (O' := O') (fun p hp => lk_of_mem hGnd hp) (fun g o r ow hg ho hi => by
                refine hO2' g fun hfi => ?_
                have h1 := (hblk g hfi.1 (hfi.2.elim .inl fun h => .inr (.inr h))).1
                rcases hin3 ho hi with h0 | ⟨h0, _⟩ | ⟨e, c', h0, _⟩ <;> rw [h1] at h0 <;> rcases hfi.2 with h2 | h2 <;> rw [h2] at h0 <;> cases h0)
              (fun himm g o hg hA => by
                obtain ⟨r, hrK, hfam⟩ := hA
                have hnone : c.O γ g = none → γ.O g = none := by
                  intro hc0
                  cases hgo : γ.O g with
                  | none => rfl
                  | some x =>
                    exfalso
                    rw [hOc, hgo] at hc0
                    have hc0 : c.rb.f x = none := hc0
                    have hκ : c.ar.κ = [] := hai.immk himm
                    have hb0 : c.b = [] := by
                      have hh := h.ok.hand
                      simp only [Lk.handed, hκ, Lk.ownRowsOf] at hh
                      revert hh; split
                      · intro hh; simp only [Option.some.injEq, Prod.mk.injEq] at hh; exact hh.2.symm
                      · intro hh; cases hh
                    have hrr : ∀ k, c.rb.r k = none ∨ ∃ p, c.rb.r k = some p ∧ (p.2 = 3 ∨ p.2 = 4 ∨ p.2 = 5) := by
                      intro k
                      simp only [CallI.rb]
                      cases hl : lk c.H k with
                      | some p =>
                        right; refine ⟨p, rfl, ?_⟩
                        have hm := lk_mem hl
                        simp only [CallI.H, List.mem_append] at hm
                        rcases hm with hm | hm | hm
                        · have : ∀ (am : List Nat) (P : Nat) (l : List AV) (x : Nat × (Nat × Nat)), x ∈ hGone am P l → x.2.2 = 4 ∨ x.2.2 = 5 := by
                            intro am P l
                            induction l generalizing am P with
                            | nil => intro x hx; simp [hGone] at hx
                            | cons v l ih =>
                              intro x hx
                              simp only [hGone, List.mem_append] at hx
                              rcases hx with hx | hx
                              · have hcs : ∀ (key dd : Nat) (cs : List Cv) (j : Nat) (x : Nat × (Nat × Nat)), x ∈ hCs key dd j cs → x.2.2 = dd := by
                                  intro key dd cs
                                  induction cs with
                                  | nil => intro j x hx; simp [hCs] at hx
                                  | cons cc cs ih2 =>
                                    intro j x hx
                                    cases cc <;> simp only [hCs, List.mem_cons] at hx <;> first | exact ih2 _ _ hx | (rcases hx with rfl | hx; rfl; exact ih2 _ _ hx)
                                revert hx; split
                                · rename_i h45
                                  intro hx
                                  have := hcs _ _ _ _ _ hx
                                  revert h45; unfold is45; split
                                  · rename_i h4; exact fun _ => .inl (this.trans h4)
                                  · rename_i h5; exact fun _ => .inr (this.trans h5)
                                  · simp
                                · intro hx; simp at hx
                              · exact ih _ _ x hx
                          rcases this _ _ _ _ hm with h | h
                          · exact .inr (.inl h)
                          · exact .inr (.inr h)
                        · rw [hκ] at hm; simp [hVars] at hm
                        · have : ∀ (am : List Nat) (P : Nat) (l : List AV) (x : Nat × (Nat × Nat)), x ∈ hIo am P l → x.2.2 = 5 := by
                            intro am P l
                            induction l generalizing am P with
                            | nil => intro x hx; simp [hIo] at hx
                            | cons v l ih =>
                              intro x hx
                              simp only [hIo, List.mem_append] at hx
                              rcases hx with hx | hx
                              · have hcs : ∀ (key dd : Nat) (cs : List Cv) (j : Nat) (x : Nat × (Nat × Nat)), x ∈ hCs key dd j cs → x.2.2 = dd := by
                                  intro key dd cs
                                  induction cs with
                                  | nil => intro j x hx; simp [hCs] at hx
                                  | cons cc cs ih2 =>
                                    intro j x hx
                                    cases cc <;> simp only [hCs, List.mem_cons] at hx <;> first | exact ih2 _ _ hx | (rcases hx with rfl | hx; rfl; exact ih2 _ _ hx)
                                revert hx; split
                                · intro hx; exact hcs _ _ _ _ _ hx
                                · intro hx; simp at hx
                              · exact ih _ _ x hx
                          exact .inr (.inr (this _ _ _ _ hm))
                      | none =>
                        simp only
                        split
                        · exact .inr ⟨_, rfl, .inl rfl⟩
                        · left
                          rw [if_neg]
                          rintro ⟨hb, row, hr, ho⟩
                          rcases hb with hb | hb
                          · rw [hai.immb himm k hb row hr] at ho; cases ho
                          · rw [hb0] at hb; cases hb
                    cases x with
                    | fz => cases hc0
                    | x => cases hc0
                    | v k =>
                      simp only [Rb.f, CallI.rb] at hc0
                      split at hc0 <;> cases hc0
                    | r k =>
                      rcases hrr k with h0 | ⟨p, h0, h5⟩ <;> simp only [Rb.f, h0] at hc0
                      · cases hc0
                      · obtain ⟨p1, p2⟩ := p
                        rcases h5 with h | h | h <;> simp only at h <;> subst h <;> cases hc0
                    | n k e c' =>
                      rcases hrr k with h0 | ⟨p, h0, h5⟩ <;> simp only [Rb.f, h0] at hc0
                      · cases hc0
                      · obtain ⟨p1, p2⟩ := p
                        rcases h5 with h | h | h <;> simp only at h <;> subst h <;> cases hc0
                by_cases hfi : first g
                · have h1 := (hblk g hfi.1 (hfi.2.elim .inl fun h => .inr (.inr h))).1
                  rw [hO1' g hfi]
                  rcases hfi.2 with h2 | h2
                  · exact .inl (hnone h2)
                  · exfalso; rw [h1, h2] at hfam
                    rcases hfam with h | h | h | ⟨_, _, h⟩ <;> cases h
                · rw [hO2' g hfi]
                  have hlr : lk G r = none := lk_none.2 fun hk => hrK ((hGk r).1 hk)
                  rcases hfam with h | h | h | ⟨e, c', h⟩ <;> rw [h]
                  · exact .inl rfl
                  · exact .inr rfl
                  · left; show a.f (.r r) = none; simp only [Rb.f, a, hlr]
                  · left; show a.f (.n r e c') = none; simp only [Rb.f, a, hlr])
            -- keys
            have hio2 : keys r2 = c.ar.io := ioNew_keys h2
            have how1 : ∀ x ∈ c.ow, x ∈ keys r1 := fun x hx => hVars_new (k := 0) h1 x (by rw [h.ok.own.1]; exact hx)
            have hnotkr : ∀ r, hasN r δ.kr = false → r ∉ c.ar.gone ∧ r ∉ c.ow ∧ r ∉ cr.res.keys d ∧ r ∉ c.m.homesOf c.ar.κ := by
              intro r hr
              have hr : r ∉ δ.kr := fun hm => by rw [hasN_iff.2 hm] at hr; cases hr
              rw [hkr] at hr
              simp only [List.mem_append, not_or] at hr
              exact hr
            have hNk : ∀ r, r ∈ keys N → hasN r δ.kr = false → r ∈ c.ar.io := by
              intro r hr hk
              obtain ⟨_, k2, k3', k4⟩ := hnotkr r hk
              rw [hkN] at hr
              simp only [List.mem_append] at hr
              rcases hr with hr | hr | hr
              · rcases k1 r hr with ⟨h, _⟩ | h
                · exact absurd h k2
                · exact absurd h k4
              · rw [← hio2]; exact hr
              · exact absurd (k3 r hr) k3'
            have hV2 : ∀ r, r ∈ keys r2 → γ'.rv r = γ.rv r := by
              intro r hr
              obtain ⟨p, hp⟩ := mem_of_lk (l := V) (k := r) (by rw [hkV, hkN]; simp [hr])
              show (match lk V r with | some p => p.1 | none => γ.rv r) = _
              rw [hp]
              have hm := lk_mem hp
              have hnd2 := (List.nodup_append.1 hn1).2.1
              simp only [V, List.mem_append] at hm
              rcases hm with hm | hm | hm
              · have := mem_keys hm
                rw [n1.keys] at this
                exact absurd rfl ((List.nodup_append.1 hnd2).2.2 r this r (by simp [hr]))
              · exact q2 r p.1 p.2 hm
              · have := mem_keys hm
                rw [n3.keys] at this
                exact absurd rfl ((List.nodup_append.1 (List.nodup_append.1 hnd2).2.1).2.2 r hr r this)
            have hlkN : ∀ r, r ∉ keys N → lk N r = none := fun r hr => lk_none.2 hr
            have hrow1 : ∀ r row, S.lk.r r = some row → hasN r δ.kr = false → r ∉ c.ar.io → ∃ row', (S.app δ).lk.r r = some row' ∧ row'.τ = row.τ ∧ row'.xs.length = row.xs.length ∧ ∀ e, row'.cs e = row.cs e := by
              intro r row hr hk hi
              have hrN : r ∉ keys N := fun hm => hi (hNk r hm hk)
              rw [app_r, hlk, hlkN r hrN]
              by_cases hz : r ∈ c.ar.fz
              · obtain ⟨row2, hr2, _⟩ := hai.fzr r hz
                have := h.le.r r row2 hr2
                rw [hr] at this; cases this
                simp only [hz, if_true, hr2, Option.map_some]
                exact ⟨_, rfl, rfl, rfl, fun _ => rfl⟩
              · simp only [hz, (hnotkr r hk).1, if_false]
                exact ⟨row, hr, rfl, rfl, fun _ => rfl⟩
            have hvb : ∀ k, (npv = none ∨ k ≠ 1000 + d) → γ'.vb k = γ.vb k := by
              intro k hk
              show npVb npv (1000 + d) γ.vb k = _
              rcases hk with hk | hk
              · rw [hk]; rfl
              · cases hnp : npv with
                | none => rfl
                | some p => simp only [npVb, if_neg hk]
            have keep : ∀ x v, RelC S.lk γ x v → RelC (S.app δ).lk γ' (δ.map x) v := by
              refine keep_of h.rel hmv (fun r row hr hk => ?_) (fun r row row' hr hk hke' hr' => ?_) (fun r hk hke' _ => ⟨fun row row' hr hr' => ?_⟩) (fun k cs hk hkv' => ⟨?_, ?_⟩)
              · by_cases hi : r ∈ c.ar.io
                · obtain ⟨row', hr'⟩ := mem_of_lk (l := N) (k := r) (by rw [hkN, hio2]; simp [hi])
                  exact ⟨⟨row', by rw [app_r, hlk, hr']⟩, hV2 r (by rw [hio2]; exact hi)⟩
                · obtain ⟨row', h1, _⟩ := hrow1 r row hr hk hi
                  exact ⟨⟨row', h1⟩, (hrvN r (fun hm => hi (hNk r hm hk))).1⟩
              · have hi : r ∉ c.ar.io := fun hm => by rw [← hke] at hm; rw [hasN_iff.2 hm] at hke'; cases hke'
                obtain ⟨row2, h1, h2, h3, _⟩ := hrow1 r row hr hk hi
                rw [hr'] at h1; cases h1
                exact ⟨h2, by omega⟩
              · have hi : r ∉ c.ar.io := fun hm => by rw [← hke] at hm; rw [hasN_iff.2 hm] at hke'; cases hke'
                obtain ⟨row2, h1, h2, h3, h4⟩ := hrow1 r row hr hk hi
                rw [hr'] at h1; cases h1
                intro e c' τ ys _ hc
                exact ⟨⟨ys, by rw [h4]; exact hc, Nat.le_refl _⟩, by rw [(hrvN r (fun hm => hi (hNk r hm hk))).2]⟩
              · rw [app_v]
                cases lkZ δ.vs k with
                | some cs' => exact ⟨cs', rfl⟩
                | none => simp only [hk, Option.map_some]; exact ⟨_, rfl⟩
              · refine hvb k ?_
                cases hnp : npv with
                | none => exact .inl rfl
                | some p =>
                  right
                  obtain ⟨cv, g⟩ := p
                  obtain ⟨cs', cur, e, _, e2, _⟩ := hnpv.2 cv g hnp
                  rw [hkvδ, e2] at hkv'
                  exact hasN1.1 hkv'
            have hrow2 : ∀ k row, (S.app δ).lk.r k = some row → RowR X O' w1 k row (γ'.rv k) (γ'.cv k) := by
              intro k row hk
              rw [app_r, hlk] at hk
              cases hl : lk N k with
              | some row2 =>
                simp only [hl] at hk; cases hk
                obtain ⟨v', cs', h1, h2⟩ := hnew k row hl
                have e1 : γ'.rv k = v' := by show (match lk V k with | some p => p.1 | none => γ.rv k) = _; rw [h1]
                have e2 : γ'.cv k = cs' := by show (match lk V k with | some p => p.2 | none => γ.cv k) = _; rw [h1]
                rw [e1, e2]; exact h2
              | none =>
                simp only [hl] at hk
                have hkN' : k ∉ keys N := lk_none.1 hl
                obtain ⟨e1, e2⟩ := hrvN k hkN'
                rw [e1, e2]
                by_cases hz : k ∈ c.ar.fz
                · obtain ⟨row2, hr2, _⟩ := hai.fzr k hz
                  simp only [hz, if_true, hr2, Option.map_some, Option.some.injEq] at hk
                  subst hk
                  exact hfrz k row2 hz hr2
                · by_cases hg : k ∈ c.ar.gone
                  · simp only [hz, hg, if_true, if_false] at hk; cases hk
                  · simp only [hz, hg, if_false] at hk
                    refine hstay k row hk ?_ hz
                    rw [lk_none, hf.kH]
                    simp only [List.mem_append, not_or]
                    refine ⟨hg, fun hm => hkN' ?_, fun hm => hkN' ?_⟩
                    · rw [hkN]; simp [how1 k hm]
                    · rw [hkN, hio2]; simp [hm]
            have hfits : Fits (S.app δ).lk γ' N V := by
              refine ⟨fun k row hm => ?_, fun k v' cs' hm => ?_⟩
              · obtain ⟨row', hr'⟩ := lk_some_of_mem hm
                exact ⟨row', by rw [app_r, hlk, hr']⟩
              · show (match lk V k with | some p => p.1 | none => γ.rv k) = _
                rw [lk_of_mem (by rw [hkV]; exact hNnd) hm]
            have keep0 : ∀ x v, RelC S.lk γ x v → RelC (S.app δ).lk γ' (δ0.map x) v := by rw [← hmap]; exact keep
            have hκn : c.ar.κ.Nodup := hai.nd (by simp)
            have hlkZ_mem : ∀ (l : List (Nat × List Cv)) (k : Nat), (∀ cs, lkZ l k = some cs → (k, cs) ∈ l) ∧ (lkZ l k = none → k ∉ keys l) := by
              intro l k
              induction l with
              | nil => exact ⟨fun cs h => by simp [lkZ] at h, fun _ => by simp [keys]⟩
              | cons p l ih =>
                obtain ⟨j, u⟩ := p
                simp only [lkZ, keys, List.mem_cons]
                cases hl : lkZ l k with
                | some cs' =>
                  exact ⟨fun cs h => by simp only [Option.some.injEq] at h; subst h; exact .inr (ih.1 _ hl), fun h => by cases h⟩
                | none =>
                  refine ⟨fun cs h => ?_, fun h => ?_⟩
                  · by_cases hj : j = k
                    · simp only [hj, if_true, Option.some.injEq] at h; subst h; subst hj; simp
                    · simp only [hj, if_false] at h; cases h
                  · by_cases hj : j = k
                    · simp [hj] at h
                    · simp [Ne.symm hj, ih.2 hl]
            refine ⟨γ', ⟨⟨fun k cs hk => ?_, hrow2⟩, keep, ⟨hfr.os, hfr.tape, hfr.output, hfr.size, fun g hg ho => ?_, fun g hg => ?_⟩, fun k row hk _ => ?_, fun k row hk h1' => ?_, fun k h1' h2' => ?_, fun k hk => ?_, fun k cs hk hz => ?_⟩, ?_⟩
            · -- a variable
              rw [app_v, hvsδ] at hk
              -- one that was there, and was not given
              have old : lkZ (vs ++ vn) k = none → (S.lk.v k).map (List.map δ.map) = some cs → O' (γ'.vb k) = some (.v k) ∧ ∃ cur e, w1.heap[γ'.vb k]? = some (.cells cur e (0, 0)) ∧ RelL (S.app δ).lk γ' cs cur.toList := by
                intro hz hk
                cases hc : S.lk.v k with
                | none => simp [hc] at hk
                | some cs0 =>
                  simp only [hc, Option.map_some, Option.some.injEq] at hk; subst hk
                  obtain ⟨hO, cur, e, hcur, hrl⟩ := h.rel.vs k cs0 hc
                  rw [lkZ_append] at hz
                  have hzn : lkZ vn k = none := by revert hz; cases lkZ vn k <;> simp
                  have hzv : lkZ vs k = none := by rw [hzn] at hz; exact hz
                  have hkκ : k ∉ c.ar.κ := by rw [← kvs]; exact (hlkZ_mem vs k).2 hzv
                  have hvbk : γ'.vb k = γ.vb k := by
                    refine hvb k ?_
                    cases hnp : npv with
                    | none => exact .inl rfl
                    | some p =>
                      right
                      obtain ⟨cv, g⟩ := p
                      obtain ⟨cs', cur', e', e1, _⟩ := hnpv.2 cv g hnp
                      rintro rfl
                      rw [e1] at hzn; simp [lkZ] at hzn
                  rw [hvbk]
                  have hlt := lt_of_some hcur
                  have hx : c.O γ (γ.vb k) = some .x := by
                    rw [hOc, hO]
                    show c.rb.f (.v k) = _
                    have : idxO k 0 c.ar.κ = none := by
                      cases hi : idxO k 0 c.ar.κ with
                      | none => rfl
                      | some i => exact absurd (List.mem_of_getElem? (idxO_get hi).2) hkκ
                    simp only [Rb.f, CallI.rb, this]
                  exact ⟨by rw [hO1' _ ⟨hlt, .inr hx⟩, hO], cur, e, ((hblk _ hlt (.inr (.inr hx))).2).trans hcur, hrl.map keep⟩
              cases hz : lkZ (vs ++ vn) k with
              | none => rw [hz] at hk; exact old hz hk
              | some cs1 =>
                rw [hz] at hk; simp only [Option.some.injEq] at hk; subst hk
                -- one that was given
                have given : lkZ vs k = some cs1 → (npv = none ∨ k ≠ 1000 + d) → O' (γ'.vb k) = some (.v k) ∧ ∃ cur e, w1.heap[γ'.vb k]? = some (.cells cur e (0, 0)) ∧ RelL (S.app δ).lk γ' cs1 cur.toList := by
                  intro hzv hnk
                  obtain ⟨i, cur, e, hi, hO, hcur, hrl⟩ := q1 (S.app δ).lk γ' hfits.left keep0 k cs1 ((hlkZ_mem vs k).1 _ hzv)
                  rw [hvb k hnk]
                  have hnf : ¬ first (γ.vb k) := by
                    intro hfi
                    have h1 := (hblk _ hfi.1 (hfi.2.elim .inl fun h => .inr (.inr h))).1
                    rw [hO] at h1
                    rcases hfi.2 with h2 | h2 <;> rw [h2] at h1 <;> cases h1
                  have hi1 : i < 1000 := by have := (List.getElem?_eq_some_iff.1 hi).1; have := h.ok.klen; omega
                  refine ⟨?_, cur, e, hcur, hrl⟩
                  rw [hO2' _ hnf, hO]
                  show a.f (.v i) = _
                  simp only [Rb.f, a, if_pos hi1, hi, Option.map_some]
                cases hnp : npv with
                | none =>
                  rw [(hnpv.1 hnp).1, List.append_nil] at hz
                  exact given hz (.inl hnp)
                | some p =>
                  obtain ⟨cv, g⟩ := p
                  obtain ⟨cs', cur, e, e1, e2, e3, e4, e5, e6, e7, e8⟩ := hnpv.2 cv g hnp
                  by_cases hk1 : k = 1000 + d
                  · subst hk1
                    rw [e1, lkZ_append] at hz
                    simp only [lkZ, if_true, Option.some.injEq] at hz; subst hz
                    have hvbg : γ'.vb (1000 + d) = g := by
                      show npVb npv (1000 + d) γ.vb (1000 + d) = _
                      rw [hnp]; simp [npVb]
                    rw [hvbg]
                    have hnf : ¬ first g := by
                      intro hfi
                      have h1 := (hblk _ hfi.1 (hfi.2.elim .inl fun h => .inr (.inr h))).1
                      rw [e6] at h1
                      rcases hfi.2 with h2 | h2 <;> rw [h2] at h1 <;> cases h1
                    refine ⟨?_, cur, e, e7, e8 _ _ hfits.right.right keep0⟩
                    show O' g = _
                    rw [hO2' _ hnf, e6]
                    show a.f (.v cv) = _
                    simp only [Rb.f, a, if_neg (show ¬ cv < 1000 by omega), hnp, npV, if_true]
                  · rw [e1, lkZ_append] at hz
                    simp only [lkZ, if_neg (Ne.symm hk1)] at hz
                    exact given hz (.inr hk1)
            · -- what is nobody's
              rcases ho with ho | ho | ho
              · have hc0 : c.O γ g = none := by rw [hOc, ho]; rfl
                exact ⟨hO1' g ⟨hg, .inl hc0⟩, (hblk g hg (.inl hc0)).2⟩
              · have hc0 : c.O γ g = some .fz := by rw [hOc, ho]; rfl
                exact ⟨by rw [ho]; exact hfz1 g hg hc0, (hblk g hg (.inr (.inl hc0))).2⟩
              · have hc0 : c.O γ g = some .x := by rw [hOc, ho]; rfl
                exact ⟨hO1' g ⟨hg, .inr hc0⟩, (hblk g hg (.inr (.inr hc0))).2⟩
            · show O' g = none
              have hnf : ¬ first g := fun hfi => by have := hfr.size; have := hfi.1; omega
              rw [hO2' g hnf, hfr.top g hg]; rfl
            · refine hrvN k fun hm => ?_
              obtain ⟨row', hr'⟩ := mem_of_lk hm
              rw [hlk, hr'] at hk; cases hk
            · rw [hlk] at hk
              cases hl : lk N k with
              | some row2 =>
                simp only [hl, Option.some.injEq] at hk; subst hk
                have hm := lk_mem hl
                simp only [N, List.mem_append] at hm
                rcases hm with hm | hm | hm
                · have := o1 _ hm; rw [h1'] at this; simp [hdK] at this
                · have := o2 _ hm; rw [h1'] at this; cases this
                · exact allLt_iff.1 hn3 k (k3 k (mem_keys hm))
              | none =>
                simp only [hl] at hk
                by_cases hz : k ∈ c.ar.fz
                · obtain ⟨row2, hr2, _⟩ := hai.fzr k hz
                  simp only [hz, if_true, hr2, Option.map_some, Option.some.injEq] at hk
                  subst hk; cases h1'
                · simp only [hz, if_false] at hk
                  split at hk <;> cases hk
            · by_cases hm : k ∈ keys N
              · rw [hkN] at hm
                simp only [List.mem_append] at hm
                rcases hm with hm | hm | hm
                · rcases k1 k hm with ⟨_, hni⟩ | hh
                  · exact absurd ⟨h1', h2'⟩ (notIo_ne hni)
                  · have := homesOf_ge hh; omega
                · exact hV2 k hm
                · have := allLt_iff.1 hn3 k (k3 k hm); omega
              · exact (hrvN k hm).1
            · exact hvb k (.inr (by omega))
            · rw [hvsδ, lkZ_append] at hz
              have hzn : lkZ vn k = none := by revert hz; cases lkZ vn k <;> simp
              have hzv : lkZ vs k = none := by rw [hzn] at hz; exact hz
              have hkκ : k ∉ c.ar.κ := by rw [← kvs]; exact (hlkZ_mem vs k).2 hzv
              obtain ⟨hO, cur, e, hcur, _⟩ := h.rel.vs k cs hk
              have hlt := lt_of_some hcur
              have hx : c.O γ (γ.vb k) = some .x := by
                rw [hOc, hO]
                show c.rb.f (.v k) = _
                have : idxO k 0 c.ar.κ = none := by
                  cases hi : idxO k 0 c.ar.κ with
                  | none => rfl
                  | some i => exact absurd (List.mem_of_getElem? (idxO_get hi).2) hkκ
                simp only [Rb.f, CallI.rb, this]
              refine ⟨hvb k ?_, by show O' _ = _; rw [hO1' _ ⟨hlt, .inr hx⟩, hO], (hblk _ hlt (.inr (.inr hx))).2⟩
              cases hnp : npv with
              | none => exact .inl rfl
              | some p =>
                right
                obtain ⟨cv, g⟩ := p
                obtain ⟨cs', cur', e', e1, _⟩ := hnpv.2 cv g hnp
                rintro rfl
                rw [e1] at hzn; simp [lkZ] at hzn
            · cases hnp : npv with
              | none => exact (hnpv.1 hnp).2.2 _ _ hfits.right.right keep0
              | some p =>
                obtain ⟨cv, g⟩ := p
                obtain ⟨cs', cur, e, e1, e2, e3, e4, e5, e6, e7, e8⟩ := hnpv.2 cv g hnp
                rw [e3]
                refine ⟨⟨cs', by rw [app_v, hvsδ, e1, lkZ_append]; simp [lkZ]⟩, ?_⟩
                rw [e5]
                show _ = Value.pointer (some ⟨npVb npv (1000 + d) γ.vb (1000 + d), 0, none⟩)
                rw [hnp]; simp [npVb]

end Go.Soft
