/-
  SoftV: one operation, whatever it is.
-/
import Derived.Test.YtlcebcpciagogaaSoftU
set_option linter.constructorNameAsVariable false
set_option linter.unusedSimpArgs false
set_option linter.unusedVariables false
namespace Go.Soft
open Go
variable {X : Ctx} {m M : Lk} {γ γ' : Gh} {w w' : World} {ρ : Operand → Value} {S : St} {δ : Dl}

/-! ### a call that does not come -/
theorem le1_hd {ms : List Nat} (h : le1s.le1 ms = true) : (hd ms = 0 ∨ hd ms = 1) ∧ le1s.le1 (tl ms) = true := by
  cases ms with
  | nil => exact ⟨.inl rfl, rfl⟩
  | cons x l =>
    simp only [le1s.le1, Bool.and_eq_true] at h
    have := Nat.le_of_ble_eq_true h.1
    exact ⟨by simp only [hd]; omega, h.2⟩
theorem le1s_hd {vl : List (List Nat)} (h : le1s vl = true) : le1s.le1 (hdL vl) = true ∧ le1s (tl vl) = true := by
  cases vl with
  | nil => exact ⟨rfl, rfl⟩
  | cons x l => simp only [le1s, Bool.and_eq_true] at h; exact h

theorem ownRows_le1 : ∀ {cs : List Cv} {ms : List Nat} {k b : List Nat}, le1s.le1 ms = true → m.ownRows ms cs = some (k, b) → k = []
  | [], ms, k, b, _, h => by simp only [Lk.ownRows, Option.some.injEq, Prod.mk.injEq] at h; exact h.1.symm
  | c :: cs, ms, k, b, hl, h => by
    simp only [Lk.ownRows] at h
    obtain ⟨h0, h1⟩ := le1_hd hl
    cases hr : m.ownRows (tl ms) cs with
    | none => simp [hr] at h
    | some p =>
      obtain ⟨k0, b0⟩ := p
      have ih := ownRows_le1 h1 hr
      simp only [hr] at h
      rcases h0 with h0 | h0 <;> simp only [h0] at h <;> cases hrow : c.row <;> simp only [hrow, Option.some.injEq, Prod.mk.injEq] at h <;> rw [← h.1, ih]
theorem ownRowsOf_le1 : ∀ {κ : List Nat} {vl : List (List Nat)} {k b : List Nat}, le1s vl = true → m.ownRowsOf vl κ = some (k, b) → k = []
  | [], vl, k, b, _, h => by simp only [Lk.ownRowsOf, Option.some.injEq, Prod.mk.injEq] at h; exact h.1.symm
  | v :: κ, vl, k, b, hl, h => by
    obtain ⟨l1, l2⟩ := le1s_hd hl
    simp only [Lk.ownRowsOf] at h
    cases hv : m.v v with
    | none => simp [hv] at h
    | some cs =>
      cases h1 : m.ownRows (hdL vl) cs with
      | none => simp [hv, h1] at h
      | some p =>
        cases h2 : m.ownRowsOf (tl vl) κ with
        | none => simp [hv, h1, h2] at h
        | some q =>
          obtain ⟨a1, b1⟩ := p
          obtain ⟨a2, b2⟩ := q
          simp only [hv, h1, h2, Option.some.injEq, Prod.mk.injEq] at h
          rw [← h.1, ownRows_le1 l1 h1, ownRowsOf_le1 l2 h2]; rfl

theorem skip_cells (hR : Rel X S.lk γ w) {f : Cv → Cv} {v : Nat} : ∀ {cs : List Cv} {ms : List Nat} {j : Nat} {l : List Ct} {cs' : List Cv} {rs : List (Nat × Row)}, le1s.le1 ms = true → m.cts cs = some l → cellsNew f v j ms cs l = some (cs', rs) →
    rs = [] ∧ ∀ (m' : Lk) (γ' : Gh) (u : List Value), (∀ x v, RelC S.lk γ x v → RelC m' γ' (f x) v) → RelL S.lk γ cs u → RelL m' γ' cs' u
  | [], ms, j, l, cs', rs, _, hc, h => by
    simp only [Lk.cts, Option.some.injEq] at hc; subst hc
    simp only [cellsNew, Option.some.injEq, Prod.mk.injEq] at h; obtain ⟨rfl, rfl⟩ := h
    exact ⟨rfl, fun m' γ' u _ hu => by cases hu; exact .nil⟩
  | c :: cs, ms, j, l, cs', rs, hl, hc, h => by
    simp only [Lk.cts] at hc
    cases h1 : m.ct c with
    | none => simp [h1] at hc
    | some y =>
      cases h2 : m.cts cs with
      | none => simp [h1, h2] at hc
      | some ys =>
        simp only [h1, h2, Option.some.injEq] at hc; subst hc
        simp only [cellsNew] at h
        cases hrest : cellsNew f v (j + 1) (tl ms) cs ys with
        | none => simp [hrest] at h
        | some p =>
          obtain ⟨cs2, rs2⟩ := p
          simp only [hrest] at h
          obtain ⟨l0, l1⟩ := le1_hd hl
          obtain ⟨ih1, ih2⟩ := skip_cells hR l1 h2 hrest
          rcases l0 with l0 | l0
          · simp only [l0] at h
            cases hf : flatC y with
            | none => simp [hf] at h
            | some x =>
              simp only [hf, Option.some.injEq, Prod.mk.injEq] at h
              obtain ⟨rfl, rfl⟩ := h
              refine ⟨ih1, fun m' γ' u hk hu => ?_⟩
              cases hu with
              | cons hx hl => 
                refine .cons (flatC_rel hf ?_) (ih2 m' γ' _ hk hl)
                by_cases hyu : y = .u
                · subst hyu; exact .inl ⟨rfl, hx.one hR⟩
                · right
                  refine ⟨hyu, ?_⟩
                  have hnl : ∀ τ xs, y ≠ .l τ xs := by rintro τ xs rfl; simp [flatC] at hf
                  have := ct_flat (M := S.lk) (γ := γ) h1 hyu hnl
                  rw [this] at hx; exact hx
          · simp only [l0, Option.some.injEq, Prod.mk.injEq] at h
            obtain ⟨rfl, rfl⟩ := h
            refine ⟨ih1, fun m' γ' u hk hu => ?_⟩
            cases hu with
            | cons hx hl => exact .cons (hk _ _ hx) (ih2 m' γ' _ hk hl)
theorem skip_vars (hm : Le m S.lk) (hR : Rel X S.lk γ w) {f : Cv → Cv} : ∀ {κ : List Nat} {vl : List (List Nat)} {vin : List (List Ct)} {vs : List (Nat × List Cv)} {rs : List (Nat × Row)}, le1s vl = true → m.vins vl κ = some vin → m.varsNew f vl κ vin = some (vs, rs) →
    rs = [] ∧ ∀ v cs', (v, cs') ∈ vs → ∃ cs, S.lk.v v = some cs ∧ ∀ (m' : Lk) (γ' : Gh) (u : List Value), (∀ x v, RelC S.lk γ x v → RelC m' γ' (f x) v) → RelL S.lk γ cs u → RelL m' γ' cs' u
  | [], vl, vin, vs, rs, _, hi, h => by
    simp only [Lk.vins, Option.some.injEq] at hi; subst hi
    simp only [Lk.varsNew, Option.some.injEq, Prod.mk.injEq] at h; obtain ⟨rfl, rfl⟩ := h
    exact ⟨rfl, fun v cs' hm => by simp at hm⟩
  | v :: κ, vl, vin, vs, rs, hl, hi, h => by
    obtain ⟨l1, l2⟩ := le1s_hd hl
    simp only [Lk.vins] at hi
    cases hv : m.v v with
    | none => simp [hv] at hi
    | some cs =>
      cases hb : Nat.ble cs.length 63 with
      | false => simp [hv, hb] at hi
      | true =>
        cases hc : m.cts cs with
        | none => simp [hv, hb, hc] at hi
        | some l =>
          cases hr : m.vins (tl vl) κ with
          | none => simp [hv, hb, hc, hr] at hi
          | some r =>
            simp only [hv, hb, hc, hr, Option.some.injEq] at hi; subst hi
            simp only [Lk.varsNew, hv] at h
            cases h1 : cellsNew f v 0 (hdL vl) cs l with
            | none => simp [h1] at h
            | some p =>
              cases h2 : m.varsNew f (tl vl) κ r with
              | none => simp [h1, h2] at h
              | some q =>
                obtain ⟨a1, r1⟩ := p
                obtain ⟨b1, q1⟩ := q
                simp only [h1, h2, Option.some.injEq, Prod.mk.injEq] at h
                obtain ⟨rfl, rfl⟩ := h
                obtain ⟨e1, e2⟩ := skip_cells hR l1 hc h1
                obtain ⟨e3, e4⟩ := skip_vars hm hR l2 hr h2
                refine ⟨by rw [e1, e3]; rfl, fun u cs' hmm => ?_⟩
                rcases List.mem_cons.1 hmm with hmm | hmm
                · cases hmm; exact ⟨cs, hm.v _ _ hv, e2⟩
                · exact e4 u cs' hmm

theorem nilCt_l {τ : Ty} {xs : List (El τ)} (h : nilCt (.l τ xs) = true) : xs = [] := by cases xs <;> simp_all [nilCt]
theorem skip_resCs {f : Cv → Cv} {as : List AV} {imm : Bool} : ∀ {ys : List Rc} {k : Nat} {ms : List Nat} {cs : List Cv} {rs : List (Nat × Row)}, nilRcs ys = true → resCs f as imm k ms ys = some (cs, rs) → (∀ p ∈ rs, p.2.xs = []) ∧ ∀ x ∈ keys rs, k ≤ x ∧ x < k + ys.length
  | [], k, ms, cs, rs, _, h => by simp only [resCs, Option.some.injEq, Prod.mk.injEq] at h; obtain ⟨rfl, rfl⟩ := h; simp [keys]
  | y :: ys, k, ms, cs, rs, hn, h => by
    simp only [resCs] at h
    cases hrest : resCs f as imm (k + 1) (tl ms) ys with
    | none => simp [hrest] at h
    | some p =>
      obtain ⟨cs2, rs2⟩ := p
      simp only [hrest] at h
      have hys : nilRcs ys = true := by cases y <;> simp_all [nilRcs]
      obtain ⟨i1, i2⟩ := skip_resCs hys hrest
      have plain : rs = rs2 → (∀ p ∈ rs, p.2.xs = []) ∧ ∀ x ∈ keys rs, k ≤ x ∧ x < k + (y :: ys).length := by
        rintro rfl; exact ⟨i1, fun x hx => by have := i2 x hx; simp only [List.length_cons]; omega⟩
      have more : ∀ row : Row, row.xs = [] → rs = (k, row) :: rs2 → (∀ p ∈ rs, p.2.xs = []) ∧ ∀ x ∈ keys rs, k ≤ x ∧ x < k + (y :: ys).length := by
        rintro row hrow rfl
        refine ⟨fun p hp => ?_, fun x hx => ?_⟩
        · rcases List.mem_cons.1 hp with rfl | hp
          · exact hrow
          · exact i1 p hp
        · simp only [keys, List.mem_cons] at hx
          simp only [List.length_cons]
          rcases hx with rfl | hx
          · omega
          · have := i2 x hx; omega
      cases y with
      | m y =>
        simp only [nilRcs, Bool.and_eq_true] at hn
        cases y with
        | l τ xs =>
          simp only at h
          cases imm with
          | true => simp only [Option.some.injEq, Prod.mk.injEq] at h; exact more _ (nilCt_l hn.1) h.2.symm
          | false => simp only [Option.some.injEq, Prod.mk.injEq] at h; exact plain h.2.symm
        | _ => simp only [flatC, Option.some.injEq, Prod.mk.injEq] at h; exact plain h.2.symm
      | c y =>
        simp only [nilRcs, Bool.and_eq_true] at hn
        cases y with
        | l τ xs => simp only [Option.some.injEq, Prod.mk.injEq] at h; exact more _ (nilCt_l hn.1) h.2.symm
        | _ => simp only [flatC, Option.some.injEq, Prod.mk.injEq] at h; exact plain h.2.symm
      | _ => simp [nilRcs] at hn
theorem skip_resTs {f : Cv → Cv} {as : List AV} {imm : Bool} : ∀ {ys : List (Bool × List Rc)} {k : Nat} {ms : List (List Nat)} {ts : List (Bool × List Cv)} {rs : List (Nat × Row)}, nilRts ys = true → resTs f as imm k ms ys = some (ts, rs) →
    (∀ p ∈ rs, p.2.xs = []) ∧ ∀ x ∈ keys rs, k ≤ x ∧ x < k + rtsN ys
  | [], k, ms, ts, rs, _, h => by simp only [resTs, Option.some.injEq, Prod.mk.injEq] at h; obtain ⟨rfl, rfl⟩ := h; simp [keys]
  | (b, l) :: ys, k, ms, ts, rs, hn, h => by
    simp only [nilRts, Bool.and_eq_true] at hn
    simp only [resTs] at h
    cases h1 : resCs f as imm k (hdL ms) l with
    | none => simp [h1] at h
    | some p =>
      cases h2 : resTs f as imm (k + l.length) (tl ms) ys with
      | none => simp [h1, h2] at h
      | some q =>
        obtain ⟨cs1, rs1⟩ := p
        obtain ⟨ts2, rs2⟩ := q
        simp only [h1, h2, Option.some.injEq, Prod.mk.injEq] at h
        obtain ⟨rfl, rfl⟩ := h
        obtain ⟨a1, a2⟩ := skip_resCs hn.1 h1
        obtain ⟨b1, b2⟩ := skip_resTs hn.2 h2
        refine ⟨fun p hp => (List.mem_append.1 hp).elim (a1 p) (b1 p), fun x hx => ?_⟩
        rw [keys_append, List.mem_append] at hx
        simp only [rtsN, rcsN_len]
        rcases hx with hx | hx
        · have := a2 x hx; omega
        · have := b2 x hx; omega
theorem skip_resA {f : Cv → Cv} {as : List AV} {imm : Bool} {rl : List (List Nat)} {d : Nat} {res : RC} {av : AV} {rs : List (Nat × Row)} {vn : List (Nat × List Cv)} (hn : drOk res = true) (h : resA f as imm rl d res = some (av, rs, vn)) :
    vn = [] ∧ res.kv d = [] ∧ (∀ p ∈ rs, p.2.xs = []) ∧ ∀ x ∈ keys rs, x ∈ res.keys d := by
  cases res with
  | u => simp only [resA, Option.some.injEq, Prod.mk.injEq] at h; obtain ⟨_, rfl, rfl⟩ := h; simp [keys, RC.kv]
  | c x =>
    simp only [resA] at h
    cases h1 : resCs f as imm (d * 64) (hdL rl) [x] with
    | none => simp [h1] at h
    | some p =>
      obtain ⟨cs, rs1⟩ := p
      obtain ⟨a1, a2⟩ := skip_resCs hn h1
      simp only [h1] at h
      revert h; split
      · rename_i heq
        simp only [Option.some.injEq, Prod.mk.injEq] at heq
        obtain ⟨rfl, rfl⟩ := heq
        intro h; simp only [Option.some.injEq, Prod.mk.injEq] at h; obtain ⟨_, rfl, rfl⟩ := h
        refine ⟨rfl, rfl, a1, fun x hx => ?_⟩
        have := a2 x hx
        simp only [RC.keys, List.mem_singleton]; simp at this; omega
      · intro h; cases h
  | a l =>
    simp only [resA] at h
    cases h1 : resCs f as imm (d * 64) (hdL rl) l with
    | none => simp [h1] at h
    | some p =>
      obtain ⟨cs, rs1⟩ := p
      obtain ⟨a1, a2⟩ := skip_resCs hn h1
      simp only [h1, Option.some.injEq, Prod.mk.injEq] at h
      obtain ⟨_, rfl, rfl⟩ := h
      exact ⟨rfl, rfl, a1, fun x hx => by simp only [RC.keys, rcsN_len, upK_mem]; exact a2 x hx⟩
  | t l =>
    simp only [resA] at h
    cases h1 : resTs f as imm (d * 64) rl l with
    | none => simp [h1] at h
    | some p =>
      obtain ⟨ts, rs1⟩ := p
      obtain ⟨a1, a2⟩ := skip_resTs hn h1
      simp only [h1, Option.some.injEq, Prod.mk.injEq] at h
      obtain ⟨_, rfl, rfl⟩ := h
      exact ⟨rfl, rfl, a1, fun x hx => by simp only [RC.keys, upK_mem]; exact a2 x hx⟩
  | np l => simp [drOk] at hn

theorem skip_ok (hR : Rel X S.lk γ w) (htop : ∀ g, w.heap.size ≤ g → γ.O g = none) (hm : Le m S.lk) {g : Sig} {avs : List AV} {ar : AR} {vin : List (List Ct)} {ow b : List Nat} {d : Nat} (hd : d < 1500) {av : AV}
    (hvins : m.vins g.vl ar.κ = some vin) (hhand : m.handed g ar = some (ow, b)) (ha : m.after g avs ar ⟨g.dr, vin, m.ioCs ar.io⟩ ow d = some (av, δ))
    (hl : le1s g.vl = true) (hdr : drOk g.dr = true) (hgo : ar.gone = []) (hio : ar.io = []) (hfz : ar.fz = []) : ∃ γ', Step X S γ w δ γ' w := by
  have how : ow = [] := by
    simp only [Lk.handed] at hhand
    cases ho : m.ownRowsOf g.vl ar.κ with
    | none => simp [ho] at hhand
    | some p =>
      obtain ⟨ow', b'⟩ := p
      have := ownRowsOf_le1 hl ho
      simp only [ho] at hhand
      revert hhand; split
      · intro h; simp only [Option.some.injEq, Prod.mk.injEq] at h; rw [← h.1, this]
      · intro h; cases h
  subst how
  simp only [Lk.after] at ha
  obtain ⟨δ0, hδ0⟩ : ∃ δ0, m.dl0 ar g.dr [] d = δ0 := ⟨_, rfl⟩
  rw [hδ0] at ha
  cases h1 : m.varsNew δ0.map g.vl ar.κ vin with
  | none => simp [h1] at ha
  | some p1 =>
    obtain ⟨vs, r1⟩ := p1
    cases h2 : m.ioNew ar.io (m.ioCs ar.io) with
    | none => simp [h1, h2] at ha
    | some r2 =>
      cases h3 : resA δ0.map avs ar.imm g.rl d g.dr with
      | none => simp [h1, h2, h3] at ha
      | some p3 =>
        obtain ⟨av', r3, vn⟩ := p3
        simp only [h1, h2, h3] at ha
        cases hn1 : nodupN (ar.gone ++ (keys r1 ++ (keys r2 ++ keys r3))) && allLt 100000 (g.dr.keys d) with
        | false => simp [hn1] at ha
        | true =>
          cases hn2 : disjN ar.fz (keys r1 ++ (keys r2 ++ keys r3)) with
          | false => simp [hn1, hn2] at ha
          | true =>
            simp only [hn1, hn2, Option.some.injEq, Prod.mk.injEq] at ha
            obtain ⟨rfl, hδ⟩ := ha
            obtain ⟨e1, q1⟩ := skip_vars hm hR hl hvins h1
            obtain ⟨e3, e4, e5, e6⟩ := skip_resA hdr h3
            have e2 : r2 = [] := by
              rw [hio] at h2
              simp only [Lk.ioCs, Lk.ioNew, Option.some.injEq] at h2; exact h2.symm
            subst e1; subst e2; subst e3
            simp only [Bool.and_eq_true] at hn1
            have hn3 := allLt_iff.1 hn1.2
            have hn1 := nodupN_iff.1 hn1.1
            simp only [hgo, keys, List.nil_append] at hn1
            have hmap : δ.map = δ0.map := by rw [← hδ]; funext x; cases x <;> rfl
            have hvsδ : δ.vs = vs := by rw [← hδ]; simp
            have hkr : δ.kr = g.dr.keys d ++ m.homesOf ar.κ := by rw [← hδ, ← hδ0]; simp [Lk.dl0, hgo]
            have hkvδ : δ.kv = [] := by rw [← hδ, ← hδ0]; exact e4
            have hmv : δ.mv = [] := by rw [← hδ, ← hδ0]; rfl
            have hlk : ∀ k, lkZ δ.rs k = (lk r3 k).map some := by
              intro k
              rw [← hδ]
              show lkZ (nones ar.gone ++ (m.frz ar.fz ++ (somes [] ++ (somes [] ++ somes r3)))) k = _
              rw [hgo, hfz]
              simp only [nones, Lk.frz, somes, List.nil_append]
              exact lkZ_somes hn1 k
            let γ' : Gh := ⟨γ.O, fun k => match lk r3 k with | some _ => .slice none 0 0 | none => γ.rv k, fun k => match lk r3 k with | some _ => [] | none => γ.cv k, γ.vb⟩
            have hrv : ∀ k, lk r3 k = none → γ'.rv k = γ.rv k ∧ γ'.cv k = γ.cv k := by
              intro k hk
              constructor
              · show (match lk r3 k with | some _ => Value.slice none 0 0 | none => γ.rv k) = _; rw [hk]
              · show (match lk r3 k with | some _ => [] | none => γ.cv k) = _; rw [hk]
            have hnk : ∀ r, hasN r δ.kr = false → lk r3 r = none := by
              intro r hr
              rw [lk_none]
              intro hm'
              have : r ∈ δ.kr := by rw [hkr]; exact List.mem_append_left _ (e6 r hm')
              rw [hasN_iff.2 this] at hr; cases hr
            have hsame : ∀ r, lk r3 r = none → (S.app δ).lk.r r = S.lk.r r := by
              intro r hr; rw [app_r, hlk, hr]; rfl
            have keep : ∀ x v, RelC S.lk γ x v → RelC (S.app δ).lk γ' (δ.map x) v := by
              refine keep_of hR hmv (fun r row hr hk => ?_) (fun r row row' hr hk _ hr' => ?_) (fun r hk _ _ => ⟨fun row row' hr hr' => ?_⟩) (fun k cs hk _ => ⟨?_, rfl⟩)
              · exact ⟨⟨row, by rw [hsame r (hnk r hk)]; exact hr⟩, (hrv r (hnk r hk)).1⟩
              · rw [hsame r (hnk r hk), hr] at hr'; cases hr'; exact ⟨rfl, Nat.le_refl _⟩
              · rw [hsame r (hnk r hk), hr] at hr'; cases hr'
                intro e c' τ ys _ hc
                exact ⟨⟨ys, hc, Nat.le_refl _⟩, by rw [(hrv r (hnk r hk)).2]⟩
              · rw [app_v]
                cases lkZ δ.vs k with
                | some cs' => exact ⟨cs', rfl⟩
                | none => simp only [hk, Option.map_some]; exact ⟨_, rfl⟩
            have keep0 : ∀ x v, RelC S.lk γ x v → RelC (S.app δ).lk γ' (δ0.map x) v := by rw [← hmap]; exact keep
            refine ⟨γ', ⟨⟨fun k cs hk => ?_, fun k row hk => ?_⟩, keep, ⟨rfl, rfl, rfl, Nat.le_refl _, fun g hg _ => ⟨rfl, rfl⟩, htop⟩, fun k row hk _ => ?_, fun k row hk h1' => ?_, fun k h1' h2' => ?_, fun _ _ => rfl, fun k cs hk _ => ⟨rfl, (hR.vs k cs hk).1, rfl⟩⟩⟩
            · rw [app_v, hvsδ] at hk
              cases hz : lkZ vs k with
              | none =>
                rw [hz] at hk
                cases hc : S.lk.v k with
                | none => simp [hc] at hk
                | some cs0 =>
                  simp only [hc, Option.map_some, Option.some.injEq] at hk; subst hk
                  obtain ⟨hO, cur, e, hcur, hrl⟩ := hR.vs k cs0 hc
                  exact ⟨hO, cur, e, hcur, hrl.map keep⟩
              | some cs1 =>
                rw [hz] at hk; simp only [Option.some.injEq] at hk; subst hk
                have hmem : ∀ (l : List (Nat × List Cv)), lkZ l k = some cs1 → (k, cs1) ∈ l := by
                  intro l
                  induction l with
                  | nil => intro h; simp [lkZ] at h
                  | cons p l ih =>
                    obtain ⟨j, u⟩ := p
                    intro h
                    simp only [lkZ] at h
                    cases hl : lkZ l k with
                    | some u2 => rw [hl] at h; simp only [Option.some.injEq] at h; subst h; exact List.mem_cons_of_mem _ (ih hl)
                    | none =>
                      rw [hl] at h
                      by_cases hj : j = k
                      · simp only [hj, if_true, Option.some.injEq] at h; subst h; subst hj; simp
                      · simp only [hj, if_false] at h; cases h
                obtain ⟨cs, hcs, hq⟩ := q1 k cs1 (hmem vs hz)
                obtain ⟨hO, cur, e, hcur, hrl⟩ := hR.vs k cs hcs
                exact ⟨hO, cur, e, hcur, hq _ _ _ keep0 hrl⟩
            · rw [app_r, hlk] at hk
              cases hl : lk r3 k with
              | none =>
                rw [hl] at hk
                obtain ⟨a1, a2⟩ := hrv k hl
                rw [a1, a2]; exact hR.rs k row hk
              | some row2 =>
                rw [hl] at hk; simp only [Option.map_some] at hk; cases hk
                have a1 : γ'.rv k = .slice none 0 0 := by show (match lk r3 k with | some _ => Value.slice none 0 0 | none => γ.rv k) = _; rw [hl]
                have a2 : γ'.cv k = [] := by show (match lk r3 k with | some _ => [] | none => γ.cv k) = _; rw [hl]
                have hxs := e5 _ (lk_mem hl)
                obtain ⟨τ, xs, ow⟩ := row
                simp only at hxs; subst hxs
                rw [a1, a2]; exact RowR.nil _ _ _ _ _ _
            · rw [hlk] at hk
              cases hl : lk r3 k with
              | none => exact hrv k hl
              | some row2 => rw [hl] at hk; cases hk
            · rw [hlk] at hk
              cases hl : lk r3 k with
              | none => rw [hl] at hk; cases hk
              | some row2 => exact hn3 k (e6 k (mem_keys (lk_mem hl)))
            · refine (hrv k ?_).1
              rw [lk_none]; intro hm'
              have := hn3 k (e6 k hm'); omega

end Go.Soft
