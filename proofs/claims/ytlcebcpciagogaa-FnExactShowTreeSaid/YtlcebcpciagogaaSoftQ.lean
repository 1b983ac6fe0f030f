/-
  SoftQ: the arguments of a call.
-/
import Derived.Test.YtlcebcpciagogaaSoftP
set_option linter.constructorNameAsVariable false
set_option linter.unusedSimpArgs false
set_option linter.unusedVariables false
namespace Go.Soft
open Go
variable {X : Ctx} {m M : Lk} {γ γ' : Gh} {w w' : World} {ρ : Operand → Value} {S : St} {δ : Dl}

/-! ### who becomes what -/
def hCs (key d : Nat) : Nat → List Cv → List (Nat × (Nat × Nat))
  | _, [] => []
  | j, .sw r :: l => (r, (key + j, d)) :: hCs key d (j + 1) l
  | j, _ :: l => hCs key d (j + 1) l
def is45 (n : Nat) : Bool := match n with | 4 => true | 5 => true | _ => false
def is9 (n : Nat) : Bool := match n with | 9 => true | _ => false
def avl : AV → List Cv
  | .c x => [x] | .a cs => cs | _ => []
def hGone : List Nat → Nat → List AV → List (Nat × (Nat × Nat))
  | _, _, [] => []
  | am, P, v :: l => (match is45 (hd am) with | true => hCs (100000 + P * 64) (hd am) 0 (avl v) | false => []) ++ hGone (tl am) (P + 1) l
def hIo : List Nat → Nat → List AV → List (Nat × (Nat × Nat))
  | _, _, [] => []
  | am, P, v :: l => (match is9 (hd am) with | true => hCs (200000 + P * 64) 5 0 (avl v) | false => []) ++ hIo (tl am) (P + 1) l
def hVc (key : Nat) : List Nat → Nat → List Cv → List (Nat × (Nat × Nat))
  | _, _, [] => []
  | ms, j, c :: l => (match hd ms with | 0 => [] | 1 => [] | w => (match c with | .sw r => [(r, (key + j, w))] | _ => [])) ++ hVc key (tl ms) (j + 1) l
def hVars (m : Lk) : Nat → List (List Nat) → List Nat → List (Nat × (Nat × Nat))
  | _, _, [] => []
  | k, vl, v :: l => (match m.v v with | some cs => hVc (300000 + k * 64) (hdL vl) 0 cs | none => []) ++ hVars m (k + 1) (tl vl) l

theorem is9_no {n : Nat} (h : n ≠ 9) : is9 n = false := by
  unfold is9; split
  · exact absurd rfl h
  · rfl
theorem keys_append {α : Type} (a b : List (Nat × α)) : keys (a ++ b) = keys a ++ keys b := by simp [keys_eq]
theorem hCs_mem (key d : Nat) : ∀ (cs : List Cv) (j i r : Nat), cs[i]? = some (.sw r) → (r, (key + (j + i), d)) ∈ hCs key d j cs
  | [], j, i, r, h => by simp at h
  | c :: cs, j, i, r, h => by
    cases i with
    | zero => simp only [List.getElem?_cons_zero, Option.some.injEq] at h; subst h; simp [hCs]
    | succ i =>
      have := hCs_mem key d cs (j + 1) i r (by simpa using h)
      rw [show j + 1 + i = j + (i + 1) by omega] at this
      cases c <;> simp only [hCs] <;> first | exact List.mem_cons_of_mem _ this | exact this
/-- a cell that owns what it has, of a kind -/
def OwnC (m : Lk) (d : Nat) (c : Cv) : Prop := (∃ r row, c = .sw r ∧ m.r r = some row ∧ leK d row.ow = true) ∨ (∃ τ, c = .nl τ) ∨ (∃ b, c = .b b) ∨ (∃ k n, c = .i k n) ∨ ∃ s, c = .s s
theorem owned_inv {d : Nat} : ∀ {cs : List Cv} {g : List Nat}, m.owned d cs = some g → (∀ key k j, keys (hCs key k j cs) = g) ∧ (∀ c ∈ cs, OwnC m d c ∧ ∀ r, c = .sw r → r ∈ g) ∧ ∀ r ∈ g, ∃ row, m.r r = some row ∧ leK d row.ow = true
  | [], g, h => by simp only [Lk.owned, Option.some.injEq] at h; subst h; simp [hCs, keys]
  | c :: cs, g, h => by
    have flat : m.owned d cs = some g → (∀ r, c ≠ .sw r) → OwnC m d c → (∀ key k j, hCs key k j (c :: cs) = hCs key k (j + 1) cs) →
        (∀ key k j, keys (hCs key k j (c :: cs)) = g) ∧ (∀ x ∈ c :: cs, OwnC m d x ∧ ∀ r, x = .sw r → r ∈ g) ∧ ∀ r ∈ g, ∃ row, m.r r = some row ∧ leK d row.ow = true := fun h hne ho hh => by
      obtain ⟨h1, h2, h3⟩ := owned_inv h
      refine ⟨fun key k j => by rw [hh]; exact h1 _ _ _, fun x hx => ?_, h3⟩
      rcases List.mem_cons.1 hx with rfl | hx
      · exact ⟨ho, fun r e => absurd e (hne r)⟩
      · exact h2 x hx
    cases c with
    | sw r =>
      simp only [Lk.owned] at h
      cases hr : m.r r with
      | none => simp [hr] at h
      | some row =>
        cases ho : m.owned d cs with
        | none => simp [hr, ho] at h
        | some k =>
          cases hle : leK d row.ow with
          | false => simp [hr, ho, hle] at h
          | true =>
            simp only [hr, ho, hle, Option.some.injEq] at h; subst h
            obtain ⟨h1, h2, h3⟩ := owned_inv ho
            refine ⟨fun key k' j => by simp [hCs, keys, h1], fun x hx => ?_, fun s hs => (List.mem_cons.1 hs).elim (fun e => e ▸ ⟨row, hr, hle⟩) (h3 s)⟩
            rcases List.mem_cons.1 hx with rfl | hx
            · exact ⟨.inl ⟨r, row, rfl, hr, hle⟩, fun s e => by cases e; simp⟩
            · exact ⟨(h2 x hx).1, fun s e => List.mem_cons_of_mem _ ((h2 x hx).2 s e)⟩
    | nl τ => exact flat (by simpa [Lk.owned] using h) (by simp) (.inr (.inl ⟨τ, rfl⟩)) (fun _ _ _ => rfl)
    | b x => exact flat (by simpa [Lk.owned] using h) (by simp) (.inr (.inr (.inl ⟨x, rfl⟩))) (fun _ _ _ => rfl)
    | i k n => exact flat (by simpa [Lk.owned] using h) (by simp) (.inr (.inr (.inr (.inl ⟨k, n, rfl⟩)))) (fun _ _ _ => rfl)
    | s x => exact flat (by simpa [Lk.owned] using h) (by simp) (.inr (.inr (.inr (.inr ⟨x, rfl⟩)))) (fun _ _ _ => rfl)
    | _ => simp [Lk.owned] at h

/-! ### an argument, and what the function sees -/
def ByV (v : AV) (x : AC) (cs : List Cv) (ys : List Ct) : Prop := (v = .a cs ∧ x = .a ys) ∨ ∃ c y, v = .c c ∧ x = .c y ∧ cs = [c] ∧ ys = [y]
def ValM (m : Lk) (G : Nat → Nat → Nat → Prop) (F B : Nat → Prop) (I : Prop) (d P : Nat) (cs : List Cv) (ys ys' : List Ct) : Prop :=
  (d = 0 ∧ ys' = ys ∧ (∀ c ∈ cs, ∀ r, c.row = some r → B r) ∧ (I → m.immL cs = true)) ∨ (d = 7 ∧ ys' = ys.map hideC) ∨
  (hdK d = true ∧ ys' = ys ∧ (∀ c ∈ cs, OwnC m d c) ∧ (d = 3 → ∀ c ∈ cs, ∀ r, c = .sw r → F r) ∧ (d ≠ 3 → ∀ j r, cs[j]? = some (.sw r) → G r (100000 + P * 64 + j) d) ∧ (I → d = 3))
inductive ArgR (m : Lk) (κ : List Nat) (G : Nat → Nat → Nat → Prop) (F B : Nat → Prop) (I : Prop) (d P : Nat) : AV → AC → Prop
  | ptr {k i : Nat} : ¬ I → κ[i]? = some k → ArgR m κ G F B I d P (.c (.pv k 0)) (.p i)
  | fn {f : Nat} {caps ks : List Nat} : ¬ I → ks.length = caps.length → (∀ (i k : Nat), ks[i]? = some k → ∃ v, caps[i]? = some v ∧ κ[k]? = some v) → ArgR m κ G F B I d P (.c (.fn f caps)) (.f f ks)
  | val {v : AV} {x : AC} {cs : List Cv} {ys ys' : List Ct} : ByV v x cs ys' → cs.length ≤ 63 → m.cts cs = some ys → ValM m G F B I d P cs ys ys' → ArgR m κ G F B I d P v x
  | io {r : Nat} {τ : Ty} {xs : List (El τ)} : ¬ I → d = 9 → m.r r = some ⟨τ, xs, 5⟩ → G r (200000 + P * 64) 5 → ArgR m κ G F B I d P (.c (.sw r)) (.io τ xs)
  | al {r v c : Nat} {cs : List Cv} : ¬ I → d = 8 → κ[0]? = some v → m.v v = some cs → cs[c]? = some (.sw r) → ArgR m κ G F B I d P (.c (.sw r)) (.al 0 c)

theorem ArgR.mono {κ κ' : List Nat} {G G' : Nat → Nat → Nat → Prop} {F F' B B' : Nat → Prop} {I I' : Prop} {d P : Nat} {v : AV} {x : AC} (h : ArgR m κ G F B I d P v x) (hκ : ∀ (i k : Nat), κ[i]? = some k → κ'[i]? = some k)
    (hG : ∀ r k d, G r k d → G' r k d) (hF : ∀ r, F r → F' r) (hB : ∀ r, B r → B' r) (hI : I' → I) : ArgR m κ' G' F' B' I' d P v x := by
  cases h with
  | ptr h0 h1 => exact .ptr (fun h => h0 (hI h)) (hκ _ _ h1)
  | fn h0 h1 h2 => exact .fn (fun h => h0 (hI h)) h1 fun i k hk => let ⟨v, h3, h4⟩ := h2 i k hk; ⟨v, h3, hκ _ _ h4⟩
  | val h1 h2 h3 h4 =>
    refine .val h1 h2 h3 ?_
    rcases h4 with ⟨a, b, c, e⟩ | h | ⟨a, b, c, e, f, g⟩
    · exact .inl ⟨a, b, fun x hx r hr => hB r (c x hx r hr), fun h => e (hI h)⟩
    · exact .inr (.inl h)
    · exact .inr (.inr ⟨a, b, c, fun h x hx r hr => hF r (e h x hx r hr), fun h j r hr => hG _ _ _ (f h j r hr), fun h => g (hI h)⟩)
  | io h0 h1 h2 h3 => exact .io (fun h => h0 (hI h)) h1 h2 (hG _ _ _ h3)
  | al h0 h8 h1 h2 h3 => exact .al (fun h => h0 (hI h)) h8 (hκ _ _ h1) h2 h3

theorem idxO_get {v : Nat} : ∀ {l : List Nat} {n k : Nat}, idxO v n l = some k → n ≤ k ∧ l[k - n]? = some v
  | [], n, k, h => by simp [idxO] at h
  | x :: l, n, k, h => by
    simp only [idxO] at h
    cases hx : Nat.beq x v with
    | true => rw [hx] at h; cases h; have := nat_beq hx; simp [this]
    | false =>
      rw [hx] at h
      obtain ⟨h1, h2⟩ := idxO_get h
      refine ⟨by omega, ?_⟩
      rw [show k - n = (k - (n + 1)) + 1 by omega]; simpa using h2
theorem idxO_none {v : Nat} : ∀ {l : List Nat} {n : Nat}, idxO v n l = none → v ∉ l
  | [], n, _ => by simp
  | x :: l, n, h => by
    simp only [idxO] at h
    cases hx : Nat.beq x v with
    | true => rw [hx] at h; cases h
    | false =>
      rw [hx] at h
      simp only [List.mem_cons, not_or]
      exact ⟨(by rintro rfl; rw [Nat.beq_refl] at hx; cases hx), idxO_none h⟩
theorem addV_ok {κ : List Nat} {v k : Nat} {κ' : List Nat} (h : addV κ v = (k, κ')) : κ'[k]? = some v ∧ (∀ (i x : Nat), κ[i]? = some x → κ'[i]? = some x) ∧ (κ.Nodup → κ'.Nodup) := by
  simp only [addV] at h
  cases hi : idxO v 0 κ with
  | some j =>
    rw [hi] at h; cases h
    exact ⟨by simpa using (idxO_get hi).2, fun _ _ h => h, id⟩
  | none =>
    rw [hi] at h; cases h
    refine ⟨by simp, fun i x hx => ?_, fun hn => ?_⟩
    · have := (List.getElem?_eq_some_iff.1 hx).1
      rw [List.getElem?_append_left this]; exact hx
    · rw [List.nodup_append]
      refine ⟨hn, by simp, ?_⟩
      intro a ha b hb
      simp at hb; subst hb
      rintro rfl; exact idxO_none hi ha
theorem addVs_ok : ∀ {vs κ ks κ' : List Nat}, addVs κ vs = (ks, κ') → ks.length = vs.length ∧ (∀ (i k : Nat), ks[i]? = some k → ∃ v, vs[i]? = some v ∧ κ'[k]? = some v) ∧ (∀ (i x : Nat), κ[i]? = some x → κ'[i]? = some x) ∧ (κ.Nodup → κ'.Nodup)
  | [], κ, ks, κ', h => by simp only [addVs, Prod.mk.injEq] at h; obtain ⟨rfl, rfl⟩ := h; simp
  | v :: vs, κ, ks, κ', h => by
    simp only [addVs] at h
    cases h1 : addV κ v with
    | mk k κ1 =>
      cases h2 : addVs κ1 vs with
      | mk ks2 κ2 =>
        simp only [h1, h2, Prod.mk.injEq] at h
        obtain ⟨rfl, rfl⟩ := h
        obtain ⟨a1, a2, a3⟩ := addV_ok h1
        obtain ⟨b1, b2, b3, b4⟩ := addVs_ok h2
        refine ⟨by simp [b1], fun i k hk => ?_, fun i x hx => b3 _ _ (a2 _ _ hx), fun hn => b4 (a3 hn)⟩
        cases i with
        | zero => simp only [List.getElem?_cons_zero, Option.some.injEq] at hk; subst hk; exact ⟨v, rfl, b3 _ _ a1⟩
        | succ i => simpa using b2 i k (by simpa using hk)

theorem findC_get {r : Nat} : ∀ {cs : List Cv} {n c : Nat}, findC r n cs = some c → n ≤ c ∧ cs[c - n]? = some (.sw r)
  | [], n, c, h => by simp [findC] at h
  | x :: cs, n, c, h => by
    have rest : findC r (n + 1) cs = some c → n ≤ c ∧ (x :: cs)[c - n]? = some (.sw r) := fun h => by
      obtain ⟨h1, h2⟩ := findC_get h
      refine ⟨by omega, ?_⟩
      rw [show c - n = (c - (n + 1)) + 1 by omega]; simpa using h2
    cases x with
    | sw s =>
      simp only [findC] at h
      cases hs : Nat.beq s r with
      | true => rw [hs] at h; cases h; have := nat_beq hs; simp [this]
      | false => rw [hs] at h; exact rest h
    | _ => exact rest (by simpa [findC] using h)

theorem cts_one {x : Cv} {y : Ct} (h : m.ct x = some y) : m.cts [x] = some [y] := by simp [Lk.cts, h]
theorem hideC_fmap (l : List Ct) : fmap hideC l = l.map hideC := fmap_eq _ _

structure ArgsI (m : Lk) (am : List Nat) (P : Nat) (avs : List AV) (κ0 : List Nat) (ar : AR) : Prop where
  len : ar.acs.length = avs.length
  pre : ∀ (i k : Nat), κ0[i]? = some k → ar.κ[i]? = some k
  nd : κ0.Nodup → ar.κ.Nodup
  gone : keys (hGone am P avs) = ar.gone
  io : keys (hIo am P avs) = ar.io
  arg : ∀ i v, avs[i]? = some v → ∃ x, ar.acs[i]? = some x ∧ ArgR m ar.κ (fun r k d => (r, (k, d)) ∈ hGone am P avs ++ hIo am P avs) (· ∈ ar.fz) (· ∈ ar.bor) (ar.imm = true) (md am i) (P + i) v x
  immb : ar.imm = true → ∀ r ∈ ar.bor, ∀ row, m.r r = some row → ownK row.ow = false
  immk : ar.imm = true → ar.κ = κ0
  fzr : ∀ r ∈ ar.fz, ∃ row, m.r r = some row ∧ leK 3 row.ow = true

theorem immL_own : ∀ {cs : List Cv}, m.immL cs = true → ∀ r ∈ borL cs, ∀ row, m.r r = some row → ownK row.ow = false
  | [], _, r, h => by simp [borL] at h
  | x :: cs, h, r, hr => by
    simp only [Lk.immL] at h
    cases hx : m.immC x with
    | false => rw [hx] at h; cases h
    | true =>
      rw [hx] at h
      simp only [borL] at hr
      cases hrow : x.row with
      | none => rw [hrow] at hr; exact immL_own h r hr
      | some s =>
        rw [hrow] at hr
        rcases List.mem_cons.1 hr with rfl | hr
        · intro row hm
          simp only [Lk.immC, hrow, hm] at hx
          revert hx; split <;> simp_all [ownK]
        · exact immL_own h r hr

theorem args_inv : ∀ (avs : List AV) (am : List Nat) (κ0 : List Nat) (P : Nat) (ar : AR), m.args am avs κ0 = some ar → ArgsI m am P avs κ0 ar
  | [], am, κ0, P, ar, h => by
    simp only [Lk.args, Option.some.injEq] at h; subst h
    exact ⟨rfl, fun _ _ h => h, id, rfl, rfl, fun i v h => by simp at h, fun _ r h => by simp at h, fun _ => rfl, fun r h => by simp at h⟩
  | v :: l, am, κ0, P, ar, h => by
    -- one argument more
    have cons : ∀ (κ1 : List Nat) (x : AC) (g io fz bor : List Nat) (b : Bool), consA x g io fz bor b (m.args (tl am) l κ1) = some ar → (∀ (i k : Nat), κ0[i]? = some k → κ1[i]? = some k) → (κ0.Nodup → κ1.Nodup) →
        keys (match is45 (hd am) with | true => hCs (100000 + P * 64) (hd am) 0 (avl v) | false => []) = g → keys (match is9 (hd am) with | true => hCs (200000 + P * 64) 5 0 (avl v) | false => []) = io →
        ArgR m κ1 (fun r k d => (r, (k, d)) ∈ (match is45 (hd am) with | true => hCs (100000 + P * 64) (hd am) 0 (avl v) | false => []) ++ (match is9 (hd am) with | true => hCs (200000 + P * 64) 5 0 (avl v) | false => [])) (· ∈ fz) (· ∈ bor) (b = true) (hd am) P v x →
        (b = true → (∀ r ∈ bor, ∀ row, m.r r = some row → ownK row.ow = false) ∧ κ1 = κ0) → (∀ r ∈ fz, ∃ row, m.r r = some row ∧ leK 3 row.ow = true) → ArgsI m am P (v :: l) κ0 ar := by
      intro κ1 x g io fz bor b hc h1 h2 h3 h4 h5 h6 h7
      cases hq : m.args (tl am) l κ1 with
      | none => simp [hq, consA] at hc
      | some q =>
        simp only [hq, consA, Option.some.injEq] at hc; subst hc
        have ih := args_inv l (tl am) κ1 (P + 1) q hq
        refine ⟨by simp [ih.len], fun i k hk => ih.pre _ _ (h1 _ _ hk), fun hn => ih.nd (h2 hn), ?_, ?_, fun i u hu => ?_, fun hi r hr row hm => ?_, fun hi => ?_, fun r hr => (List.mem_append.1 hr).elim (h7 r) (ih.fzr r)⟩
        · simp only [hGone, keys_append, h3, ih.gone]
        · simp only [hIo, keys_append, h4, ih.io]
        · cases i with
          | zero =>
            simp only [List.getElem?_cons_zero, Option.some.injEq] at hu; subst hu
            refine ⟨x, rfl, h5.mono ih.pre (fun r k d hg => ?_) (fun r hr => List.mem_append_left _ hr) (fun r hr => List.mem_append_left _ hr) (fun h => by cases b <;> simp_all)⟩
            simp only [hGone, hIo, List.mem_append] at hg ⊢
            rcases hg with hg | hg
            · exact .inl (.inl hg)
            · exact .inr (.inl hg)
          | succ i =>
            obtain ⟨y, hy, hr⟩ := ih.arg i u (by simpa using hu)
            refine ⟨y, by simpa using hy, ?_⟩
            rw [← md_tl, show P + (i + 1) = P + 1 + i by omega]
            refine hr.mono (fun _ _ h => h) (fun r k d hg => ?_) (fun r hr => List.mem_append_right _ hr) (fun r hr => List.mem_append_right _ hr) (fun h => by cases b <;> simp_all)
            simp only [hGone, hIo, List.mem_append] at hg ⊢
            rcases hg with hg | hg
            · exact .inl (.inr hg)
            · exact .inr (.inr hg)
        · have hb : b = true ∧ q.imm = true := by cases b <;> simp_all
          rcases List.mem_append.1 hr with hr | hr
          · exact (h6 hb.1).1 r hr row hm
          · exact ih.immb hb.2 r hr row hm
        · have hb : b = true ∧ q.imm = true := by cases b <;> simp_all
          exact (ih.immk hb.2).trans (h6 hb.1).2
    -- by value
    have byv : ∀ (cs : List Cv) (ys : List Ct) (x : AC), avl v = cs → cs.length ≤ 63 → m.cts cs = some ys → (∀ ys', (ys' = ys ∧ ByV v x cs ys') ∨ (ys' = ys.map hideC ∧ ByV v (hideA x) cs ys') ∨ True) → ByV v x cs ys → ByV v (hideA x) cs (ys.map hideC) → is9 (hd am) = false →
        m.argL (hd am) cs x (m.args (tl am) l κ0) = some ar → ArgsI m am P (v :: l) κ0 ar := by
      intro cs ys x havl hlen hcts _ hv1 hv2 h9 h
      simp only [Lk.argL] at h
      revert h; split
      · rename_i h0
        intro h
        refine cons κ0 x [] [] [] (borL cs) (m.immL cs) h (fun _ _ h => h) id (by rw [h0]; rfl) (by rw [h0]; rfl) (.val hv1 hlen hcts (.inl ⟨h0, rfl, fun c hc r hr => ?_, id⟩)) (fun h => ⟨immL_own h, rfl⟩) (by simp)
        have : ∀ (l : List Cv), c ∈ l → r ∈ borL l := by
          intro l
          induction l with
          | nil => simp
          | cons a l ih =>
            intro hm
            simp only [borL]
            rcases List.mem_cons.1 hm with rfl | hm
            · rw [hr]; simp
            · cases a.row with
              | some s => exact List.mem_cons_of_mem _ (ih hm)
              | none => exact ih hm
        exact this cs hc
      · rename_i h0
        intro h
        exact cons κ0 (hideA x) [] [] [] [] true h (fun _ _ h => h) id (by rw [h0]; rfl) (by rw [h0]; rfl) (.val hv2 hlen hcts (.inr (.inl ⟨h0, rfl⟩))) (fun _ => ⟨by simp, rfl⟩) (by simp)
      · rename_i h0 h7
        cases hk : hdK (hd am) with
        | false => simp [hk]
        | true =>
          cases ho : m.owned (hd am) cs with
          | none => simp [hk, ho]
          | some g =>
            simp only [hk, ho]
            obtain ⟨o1, o2, o3⟩ := owned_inv ho
            have hd345 : hd am = 3 ∨ hd am = 4 ∨ hd am = 5 := by revert hk; simp only [hdK]; split <;> simp_all
            split
            · rename_i h3
              intro h
              refine cons κ0 x [] [] g [] true h (fun _ _ h => h) id (by rw [h3]; rfl) (by rw [h3]; rfl) (.val hv1 hlen hcts (.inr (.inr ⟨hk, rfl, fun c hc => (o2 c hc).1, fun _ c hc r hr => (o2 c hc).2 r hr, fun h => absurd h3 h, fun _ => h3⟩))) (fun _ => ⟨by simp, rfl⟩) (fun r hr => by have := o3 r hr; rwa [h3] at this)
            · rename_i h3
              intro h
              have h45 : is45 (hd am) = true := by rcases hd345 with h | h | h <;> rw [h] at h3 ⊢ <;> first | rfl | exact absurd rfl h3
              refine cons κ0 x g [] [] [] false h (fun _ _ h => h) id (by simp only [h45, havl]; exact o1 _ _ _) (by simp only [h9]; rfl) (.val hv1 hlen hcts (.inr (.inr ⟨hk, rfl, fun c hc => (o2 c hc).1, fun h => absurd h h3, fun _ j r hr => ?_, fun h => by cases h⟩))) (fun h => by cases h) (by simp)
              simp only [h45, havl, List.mem_append]
              left
              have := hCs_mem (100000 + P * 64) (hd am) cs 0 j r hr
              rwa [Nat.zero_add] at this
    have none1 : ∀ (x : Cv), (∀ r, x ≠ .sw r) → keys (match is45 (hd am) with | true => hCs (100000 + P * 64) (hd am) 0 [x] | false => []) = [] ∧ keys (match is9 (hd am) with | true => hCs (200000 + P * 64) 5 0 [x] | false => []) = [] := by
      intro x hx
      have : ∀ key d, hCs key d 0 [x] = [] := by intro key d; cases x <;> first | rfl | exact absurd rfl (hx _)
      constructor <;> split <;> simp [this, keys]
    -- a cell
    have cell : ∀ x, v = .c x → (∀ k, x ≠ .pv k 0) → (∀ f caps, x ≠ .fn f caps) → ArgsI m am P (v :: l) κ0 ar := by
      rintro x rfl hpv hfn
      have h : m.arg1 (hd am) x κ0 (m.args (tl am) l κ0) = some ar := by
        revert h; cases x <;> first | exact absurd rfl (hfn _ _) | (simp only [Lk.args]; exact id) | skip
      simp only [Lk.arg1, Lk.arg9, Lk.arg8] at h
      revert h; split
      · rename_i h9
        split
        · rename_i r
          cases hr : m.r r with
          | none => simp
          | some row =>
            obtain ⟨τ, xs, ow⟩ := row
            cases h5 : Nat.beq ow 5 with
            | false => simp [h5]
            | true =>
              simp only [h5]
              intro h
              have := nat_beq h5; subst this
              refine cons κ0 _ [] [r] [] [] false h (fun _ _ h => h) id (by rw [h9]; rfl) (by rw [h9]; rfl) (.io (by simp) h9 hr ?_) (fun h => by cases h) (by simp)
              rw [h9]; simp [is45, is9, hCs, avl]
        · simp
      · rename_i h8
        split
        · rename_i r v κ'
          cases hv : m.v v with
          | none => simp
          | some cs =>
            cases hf : findC r 0 cs with
            | none => simp [hf]
            | some c =>
              simp only [hf]
              intro h
              have := (findC_get hf).2
              refine cons _ _ [] [] [] [] false h (fun _ _ h => h) id (by rw [h8]; rfl) (by rw [h8]; rfl) (.al (by simp) h8 (v := v) rfl hv (by simpa using this)) (fun h => by cases h) (by simp)
        · simp
      · rename_i h9 h8
        cases hct : m.ct x with
        | none => simp
        | some y =>
          simp only
          intro h
          have h9' : is9 (hd am) = false := is9_no h9
          exact byv [x] [y] (.c y) rfl (by simp) (cts_one hct) (fun _ => .inr (.inr trivial)) (.inr ⟨x, y, rfl, rfl, rfl, rfl⟩) (.inr ⟨x, hideC y, rfl, rfl, rfl, rfl⟩) h9' h
    cases v with
    | c x =>
      cases x with
      | pv k c =>
        cases c with
        | zero =>
          simp only [Lk.args] at h
          cases ha : addV κ0 k with
          | mk i κ1 =>
            simp only [ha] at h
            obtain ⟨a1, a2, a3⟩ := addV_ok ha
            obtain ⟨n1, n2⟩ := none1 (.pv k 0) (by simp)
            exact cons κ1 _ [] [] [] [] false h a2 a3 n1 n2 (.ptr (by simp) a1) (fun h => by cases h) (by simp)
        | succ c => exact cell _ rfl (by simp) (by simp)
      | fn f caps =>
        simp only [Lk.args] at h
        cases ha : addVs κ0 caps with
        | mk ks κ1 =>
          simp only [ha] at h
          obtain ⟨a1, a2, a3, a4⟩ := addVs_ok ha
          obtain ⟨n1, n2⟩ := none1 (.fn f caps) (by simp)
          exact cons κ1 _ [] [] [] [] false h a3 a4 n1 n2 (.fn (by simp) a1 a2) (fun h => by cases h) (by simp)
      | _ => exact cell _ rfl (by simp) (by simp)
    | a cs =>
      simp only [Lk.args] at h
      cases hb : Nat.ble cs.length 63 with
      | false => simp [hb] at h
      | true =>
        cases hc : m.cts cs with
        | none => simp [hb, hc] at h
        | some ys =>
          simp only [hb, hc] at h
          by_cases h9 : hd am = 9
          · rw [h9] at h; simp [Lk.argL, hdK] at h
          · have h9' : is9 (hd am) = false := is9_no h9
            exact byv cs ys (.a ys) rfl (Nat.le_of_ble_eq_true hb) hc (fun _ => .inr (.inr trivial)) (.inl ⟨rfl, rfl⟩) (.inl ⟨rfl, by simp [hideA, hideC_fmap]⟩) h9' h
    | _ => simp [Lk.args] at h

end Go.Soft
