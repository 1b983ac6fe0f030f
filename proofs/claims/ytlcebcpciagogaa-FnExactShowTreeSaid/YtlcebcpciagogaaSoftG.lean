/-
  SoftG: rows that are stored into, with what is handed over and what is shared.
-/
import Derived.Test.YtlcebcpciagogaaSoftF
set_option linter.constructorNameAsVariable false
set_option linter.unusedSimpArgs false
set_option linter.unusedVariables false
namespace Go.Soft
open Go
variable {X : Ctx} {m M : Lk} {γ γ' : Gh} {w w' : World} {ρ : Operand → Value} {S : St} {δ : Dl}

theorem hasN_iff {a : Nat} {l : List Nat} : hasN a l = true ↔ a ∈ l := by
  induction l with
  | nil => simp [hasN]
  | cons b l ih =>
    simp only [hasN, List.mem_cons]
    cases h : Nat.beq b a with
    | true => have := nat_beq h; simp [this]
    | false => simp only [ih]; constructor
               · exact .inr
               · rintro (rfl | h')
                 · rw [Nat.beq_refl] at h; cases h
                 · exact h'
theorem nodupN_iff {l : List Nat} : nodupN l = true ↔ l.Nodup := by
  induction l with
  | nil => simp [nodupN]
  | cons a l ih =>
    simp only [nodupN, List.nodup_cons, ← hasN_iff]
    cases h : hasN a l <;> simp [ih]
theorem keys_eq {α : Type} (l : List (Nat × α)) : keys l = l.map (·.1) := by
  induction l with
  | nil => rfl
  | cons p l ih => obtain ⟨k, v⟩ := p; simp [keys, ih]
theorem lk_mem {α : Type} {l : List (Nat × α)} {k : Nat} {v : α} (h : lk l k = some v) : (k, v) ∈ l := by
  induction l with
  | nil => simp [lk] at h
  | cons p l ih =>
    obtain ⟨j, u⟩ := p
    simp only [lk] at h
    cases hj : Nat.beq j k with
    | true => simp only [hj, Option.some.injEq] at h; have := nat_beq hj; subst this; subst h; simp
    | false => simp only [hj] at h; exact List.mem_cons_of_mem _ (ih h)
theorem lk_none {α : Type} {l : List (Nat × α)} {k : Nat} : lk l k = none ↔ k ∉ keys l := by
  induction l with
  | nil => simp [lk, keys]
  | cons p l ih =>
    obtain ⟨j, u⟩ := p
    simp only [lk, keys, List.mem_cons, not_or]
    cases hj : Nat.beq j k with
    | true => have := nat_beq hj; simp [this]
    | false => simp only [ih]; constructor
               · intro h; exact ⟨(by rintro rfl; rw [Nat.beq_refl] at hj; cases hj), h⟩
               · exact fun h => h.2
theorem mem_keys {α : Type} {l : List (Nat × α)} {k : Nat} {v : α} (h : (k, v) ∈ l) : k ∈ keys l := by rw [keys_eq]; exact List.mem_map_of_mem h
theorem lk_of_mem {α : Type} {l : List (Nat × α)} {k : Nat} {v : α} (hn : (keys l).Nodup) (h : (k, v) ∈ l) : lk l k = some v := by
  induction l with
  | nil => simp at h
  | cons p l ih =>
    obtain ⟨j, u⟩ := p
    simp only [keys, List.nodup_cons] at hn
    simp only [lk]
    rcases List.mem_cons.1 h with h | h
    · cases h; simp [Nat.beq_refl]
    · have hne : Nat.beq j k = false := by
        cases hj : Nat.beq j k with
        | false => rfl
        | true => have := nat_beq hj; subst this; exact absurd (mem_keys h) hn.1
      simp [hne, ih hn.2 h]
theorem lkZ_append {α : Type} (a b : List (Nat × α)) (k : Nat) : lkZ (a ++ b) k = match lkZ b k with | some v => some v | none => lkZ a k := by
  induction a with
  | nil => simp [lkZ]; cases lkZ b k <;> rfl
  | cons p a ih =>
    obtain ⟨j, u⟩ := p
    simp only [List.cons_append, lkZ, ih]
    cases lkZ b k <;> rfl
theorem lkZ_one {α : Type} (j : Nat) (v : α) (k : Nat) : lkZ [(j, v)] k = if j = k then some v else none := rfl

/-! ### whose the blocks are behind a store -/
def dn (ow' key e c : Nat) : Ow := match ow' with | 5 => .n key e c | _ => .fz
theorem dn_in {ow' key e c : Nat} (how : ow' = 2 ∨ ow' = 4 ∨ ow' = 5) : In (nesC key e c ow') (some (dn ow' key e c)) := by
  rcases how with rfl | rfl | rfl
  · exact .inr rfl
  · exact rfl
  · exact rfl
structure Ro where
  key : Nat
  ow' : Nat
  keep : Bool
  dead : Nat → Nat → Bool
  mv : List (Nat × (Nat × Nat))
  sh : List (Nat × Nat)
def Ro.f (a : Ro) : Ow → Option Ow
  | .r k => match lk a.mv k with
    | some (e, c) => some (dn a.ow' a.key e c)
    | none => match lk a.sh k with
      | some 3 => some .fz
      | _ => if k = a.key then (if a.keep then some (.r k) else none) else some (.r k)
  | .n k e c => match lk a.sh k with
    | some _ => some .fz
    | none => if k = a.key then (if a.dead e c then none else some (dn a.ow' a.key e c)) else some (.n k e c)
  | o => some o
def Ro.R (a : Ro) (r : Nat) : Prop := r = a.key ∨ r ∈ keys a.mv ∨ r ∈ keys a.sh
def Ro.O (a : Ro) (O : OM) (nb : Option Nat) : OM := fun g => if some g = nb then some (.r a.key) else (O g).bind a.f
def Ro.apart (a : Ro) : Prop := (a.key :: (keys a.mv ++ keys a.sh)).Nodup

theorem Ro.f_out (a : Ro) {o : Ow} (h : ∀ r, a.R r → o ≠ .r r ∧ ∀ e c, o ≠ .n r e c) : a.f o = some o := by
  cases o with
  | r k =>
    have hk : ¬ a.R k := fun hr => (h k hr).1 rfl
    simp only [Ro.R, not_or] at hk
    simp [Ro.f, lk_none.2 hk.2.1, lk_none.2 hk.2.2, hk.1]
  | n k e c =>
    have hk : ¬ a.R k := fun hr => (h k hr).2 e c rfl
    simp only [Ro.R, not_or] at hk
    simp [Ro.f, lk_none.2 hk.2.2, hk.1]
  | _ => rfl

/-- what is left of the ghosts behind a store -/
theorem Ro.chg (a : Ro) (htop : ∀ g, w.heap.size ≤ g → γ.O g = none) {nb : Option Nat} {rv' : Nat → Value} {cv' : Nat → List Value} (hos : w'.os = w.os) (htp : w'.tape = w.tape)
    (hout : w'.output = w.output) (hsz : w.heap.size ≤ w'.heap.size) (hn : ∀ g, some g = nb → w.heap.size ≤ g ∧ g < w'.heap.size)
    (hb : ∀ g, g < w.heap.size → γ.O g ≠ some (.r a.key) → w'.heap[g]? = w.heap[g]?) (hrv : ∀ r, r ≠ a.key → rv' r = γ.rv r ∧ cv' r = γ.cv r) :
    Chg a.R γ w { γ with O := a.O γ.O nb, rv := rv', cv := cv' } w' := by
  refine ⟨hos, htp, hout, hsz, fun g hg hk => ⟨hb g hg ?_, ?_⟩, fun g hg => ?_, rfl, fun r hr => hrv r fun e => hr (.inl e)⟩
  · exact (hk a.key (.inl rfl)).1
  · have hgn : ¬ some g = nb := fun h => by have := hn g h; omega
    simp only [Ro.O, if_neg hgn]
    cases ho : γ.O g with
    | none => rfl
    | some o =>
      show a.f o = some o
      exact a.f_out fun r hr => by
        obtain ⟨h1, h2⟩ := hk r hr
        rw [ho] at h1 h2
        exact ⟨fun e => h1 (congrArg some e), fun e c e' => h2 e c (congrArg some e')⟩
  · have hgn : ¬ some g = nb := fun h => by have := hn g h; omega
    simp only [Ro.O, if_neg hgn, htop g (Nat.le_trans hsz hg)]
    rfl

theorem Ro.absO (a : Ro) (hap : a.apart) (how : a.ow' = 2 ∨ a.ow' = 4 ∨ a.ow' = 5) {nb : Option Nat} (hn : ∀ g, some g = nb → w.heap.size ≤ g) (htop : ∀ g, w.heap.size ≤ g → γ.O g = none) {xs : List Cv}
    (heap : ∀ g o, w.heap[g]? = some o → (∃ x ∈ xs, TopA M γ x g) → w'.heap[g]? = some o) :
    AbsO M γ w (a.O γ.O nb) w' xs a.mv a.sh a.key a.ow' := by
  have hmn : (keys a.mv).Nodup := by
    have := hap; simp only [Ro.apart, List.nodup_cons, List.nodup_append] at this; exact this.2.1
  have hsn : (keys a.sh).Nodup := by
    have := hap; simp only [Ro.apart, List.nodup_cons, List.nodup_append] at this; exact this.2.2.1
  have hms : ∀ k, k ∈ keys a.sh → lk a.mv k = none := by
    intro k hk
    rw [lk_none]
    intro hk'
    have := hap; simp only [Ro.apart, List.nodup_cons, List.nodup_append] at this
    exact this.2.2.2 k hk' k hk rfl
  have hO : ∀ g o, γ.O g = some o → a.O γ.O nb g = a.f o := by
    intro g o ho
    have hgn : ¬ some g = nb := fun h => by have := htop g (hn g h); rw [this] at ho; cases ho
    simp only [Ro.O, if_neg hgn, ho]; rfl
  refine ⟨heap, fun g hg hi => ?_, fun r e c hr g hg => ?_, fun r hr g hg => ?_, fun r hr g e c hg => ?_⟩
  · rcases hi with h | h
    · have hgn : ¬ some g = nb := fun h' => by have := hn g h'; omega
      simp only [Ro.O, if_neg hgn, h]; rfl
    · rw [hO g _ h, h]; rfl
  · rw [hO g _ hg]
    simp only [Ro.f, lk_of_mem hmn hr]
    exact dn_in how
  · rw [hO g _ hg]
    simp only [Ro.f, hms r (mem_keys hr), lk_of_mem hsn hr]
  · rw [hO g _ hg]
    simp only [Ro.f, lk_of_mem hsn hr]

/-- a row that is shared now -/
theorem Ro.shared (a : Ro) (hap : a.apart) {nb : Option Nat} (hn : ∀ g, some g = nb → w.heap.size ≤ g) (htop : ∀ g, w.heap.size ≤ g → γ.O g = none)
    (hb : ∀ g, g < w.heap.size → γ.O g ≠ some (.r a.key) → w'.heap[g]? = w.heap[g]?) {r k : Nat} {row : Row} {v : Value} {cs : List Value} (hrow : RowR X γ.O w r row v cs) (hr : (r, k) ∈ a.sh)
    (hk : (k = 3 ∧ leK 4 row.ow = true) ∨ (k = 4 ∧ row.ow = 5)) : RowR X (a.O γ.O nb) w' r { row with ow := k } v cs := by
  have hsn : (keys a.sh).Nodup := by
    have := hap; simp only [Ro.apart, List.nodup_cons, List.nodup_append] at this; exact this.2.2.1
  have hms : lk a.mv r = none := by
    rw [lk_none]
    intro hk'
    have := hap; simp only [Ro.apart, List.nodup_cons, List.nodup_append] at this
    exact this.2.2.2 r hk' r (mem_keys hr) rfl
  have hkey : r ≠ a.key := by
    have := hap; simp only [Ro.apart, List.nodup_cons, List.mem_append, not_or] at this
    rintro rfl; exact this.1.2 (mem_keys hr)
  have hO : ∀ g o, γ.O g = some o → a.O γ.O nb g = a.f o := by
    intro g o ho
    have hgn : ¬ some g = nb := fun h => by have := htop g (hn g h); rw [this] at ho; cases ho
    simp only [Ro.O, if_neg hgn, ho]; rfl
  have hlk := lk_of_mem hsn hr
  have hown : row.ow = 4 ∨ row.ow = 5 := by
    rcases hk with ⟨_, h⟩ | ⟨_, h⟩
    · revert h; simp only [leK]; split <;> simp_all
    · exact .inr h
  have fr : (k = 3 → a.f (.r r) = some .fz) ∧ (k = 4 → a.f (.r r) = some (.r r)) := by
    refine ⟨fun h => ?_, fun h => ?_⟩
    · subst h; simp only [Ro.f, hms, hlk]
    · subst h; simp only [Ro.f, hms, hlk]
      show (if r = a.key then _ else some (Ow.r r)) = _
      rw [if_neg hkey]
  refine hrow.re ?_ (fun g o hg hi => ?_) (fun e c g o hg hi => ?_)
  · rcases hk with ⟨rfl, _⟩ | ⟨rfl, h⟩
    · rcases hown with h | h <;> rw [h] <;> rfl
    · rw [h]; rfl
  · have hi : γ.O g = some (.r r) := by rcases hown with h | h <;> rw [h] at hi <;> exact hi
    refine ⟨(hb g (lt_of_some hg) (by rw [hi]; simp; exact hkey)).trans hg, ?_⟩
    rw [hO g _ hi]
    rcases hk with ⟨rfl, _⟩ | ⟨rfl, _⟩
    · rw [fr.1 rfl]; rfl
    · rw [fr.2 rfl]; rfl
  · have hi : γ.O g = some (.n r e c) ∨ γ.O g = some .fz := by
      rcases hown with h | h <;> rw [h] at hi
      · exact .inr hi
      · exact .inl hi
    have h5 : a.O γ.O nb g = some .fz := by
      rcases hi with hi | hi
      · rw [hO g _ hi]; simp only [Ro.f, hlk]
      · rw [hO g _ hi]; rfl
    refine ⟨(hb g (lt_of_some hg) (by rcases hi with h | h <;> rw [h] <;> simp)).trans hg, ?_⟩
    rw [h5]
    rcases hk with ⟨rfl, _⟩ | ⟨rfl, _⟩ <;> rfl

/-- as keep_of, with rows that are a row's cell now -/
theorem keep_gen (hR : Rel X S.lk γ w)
    (hmv : ∀ r d e c row, lk δ.mv r = some (d, e, c) → S.lk.r r = some row → ∃ row', (S.app δ).lk.r d = some row' ∧ e < row'.xs.length ∧ (row'.cs e)[c]? = some (.l row.τ row.xs) ∧
      (γ'.cv d)[e * sz row'.τ + c]? = some (γ.rv r))
    (hw : ∀ r row, S.lk.r r = some row → lk δ.mv r = none → hasN r δ.kr = false → (∃ row', (S.app δ).lk.r r = some row') ∧ γ'.rv r = γ.rv r)
    (hr : ∀ r row row', S.lk.r r = some row → lk δ.mv r = none → hasN r δ.kr = false → hasN r δ.ke = false → (S.app δ).lk.r r = some row' → row'.τ = row.τ ∧ row.xs.length ≤ row'.xs.length)
    (hn : ∀ r, lk δ.mv r = none → hasN r δ.kr = false → hasN r δ.ke = false → hasN r δ.kn = false → KeepN S.lk γ (S.app δ).lk γ' r)
    (hv : ∀ k cs, S.lk.v k = some cs → hasN k δ.kv = false → (∃ cs', (S.app δ).lk.v k = some cs') ∧ γ'.vb k = γ.vb k) :
    ∀ x v, RelC S.lk γ x v → RelC (S.app δ).lk γ' (δ.map x) v := by
  intro x v hx
  rcases map_cases δ x with h | ⟨h, h1, h2⟩ | ⟨r, d, e, c, h, hh⟩
  · rw [h]; exact hx.one hR
  · rw [h]
    by_cases hs : ∃ r, x = .sw r
    · obtain ⟨r, rfl⟩ := hs
      obtain ⟨⟨row, hrow⟩, rfl⟩ := hx
      obtain ⟨h0, h3, _⟩ := h1 r rfl
      obtain ⟨h4, h5⟩ := hw r row hrow h0 h3
      exact ⟨h4, h5.symm⟩
    · have hs' : ∀ s, x ≠ .sw s := fun s e => hs ⟨s, e⟩
      have hrow : ∀ r, x.row = some r → ∃ row, S.lk.r r = some row := by
        intro r hxr
        cases x <;> simp [Cv.row] at hxr <;> subst hxr
        case sw r => exact absurd rfl (hs' r)
        case sl => obtain ⟨row, h, _⟩ := hx; exact ⟨row, h⟩
        case nw => obtain ⟨row, _, _, h, _⟩ := hx; exact ⟨row, h⟩
        case ns => obtain ⟨row, _, _, _, h, _⟩ := hx; exact ⟨row, h⟩
        case pe => obtain ⟨row, h, _⟩ := hx; exact ⟨row, h⟩
        case pn => obtain ⟨row, _, _, _, h, _⟩ := hx; exact ⟨row, h⟩
      have hvar : ∀ k ∈ x.vk, ∃ cs, S.lk.v k = some cs := by
        intro k hk
        cases x <;> simp [Cv.vk] at hk
        case pv => subst hk; exact hx.1
        case fn => exact hx.1 k hk
      refine hx.re (fun r hr' => ?_) (fun r hr' hi => ?_) (fun k hk => ?_)
      · obtain ⟨h0, h3, h4, _⟩ := h1 r hr'
        obtain ⟨row, hrw⟩ := hrow r hr'
        obtain ⟨⟨row', h5⟩, h6⟩ := hw r row hrw h0 h3
        refine ⟨fun row2 h7 => ?_, h6⟩
        rw [hrw] at h7; cases h7
        obtain ⟨h8, h9⟩ := hr r row row' hrw h0 h3 (h4 hs') h5
        exact ⟨row', h5, h8, h9⟩
      · obtain ⟨h0, h3, h4, h5⟩ := h1 r hr'
        exact hn r h0 h3 (h4 hs') (h5 hi)
      · obtain ⟨cs, hcs⟩ := hvar k hk
        obtain ⟨h3, h4⟩ := hv k cs hcs (h2 k hk)
        exact ⟨fun _ _ => h3, h4⟩
  · rcases hh with ⟨rfl, hm⟩ | ⟨o, n, rfl, hm⟩ | ⟨k, i, rfl, hm⟩
    · obtain ⟨⟨row, hrow⟩, rfl⟩ := hx
      obtain ⟨row', h1, h2, h3, h4⟩ := hmv r d e c row h hrow
      rw [hm]; exact ⟨row', row.τ, row.xs, h1, h2, h3, h4⟩
    · obtain ⟨row, hrow, hle, hs⟩ := hx
      obtain ⟨row', h1, h2, h3, h4⟩ := hmv r d e c row h hrow
      rw [hm]; exact ⟨row', row.τ, row.xs, _, h1, h2, h3, h4, hle, hs⟩
    · obtain ⟨row, hrow, hle, hs⟩ := hx
      obtain ⟨row', h1, h2, h3, h4⟩ := hmv r d e c row h hrow
      rw [hm]; exact ⟨row', row.τ, row.xs, _, h1, h2, h3, h4, hle, hs⟩

/-! ### a store into an element -/
theorem take_repl {α : Type} (l m : List α) (i N : Nat) (h : i + m.length ≤ N) (hN : N ≤ l.length) : (Soft.repl l i m).take N = Soft.repl (l.take N) i m := by
  apply List.ext_getElem?
  intro j
  rw [List.getElem?_take]
  rcases Nat.lt_trichotomy j i with hj | hj | hj
  · rw [if_pos (by omega), repl_get_lt _ _ _ _ hj (by omega), repl_get_lt _ _ _ _ hj (by simp; omega), List.getElem?_take, if_pos (by omega)]
  all_goals
    by_cases h2 : j < i + m.length
    · obtain ⟨d, rfl⟩ : ∃ d, j = i + d := ⟨j - i, by omega⟩
      rw [if_pos (by omega), repl_get_in _ _ _ _ (by omega) (by omega), repl_get_in _ _ _ _ (by omega) (by simp; omega)]
    · rw [repl_get_ge _ _ _ _ (by omega) (by omega), repl_get_ge _ _ _ _ (by omega) (by simp; omega), List.getElem?_take]

theorem ownK_cases {a : Nat} (h : ownK a = true) : a = 2 ∨ a = 4 ∨ a = 5 := by revert h; simp only [ownK]; split <;> simp_all
theorem own_ne1 {a : Nat} (h : ownK a = true) : a ≠ 1 := by rcases ownK_cases h with rfl | rfl | rfl <;> decide
theorem one_k1 {r : Nat} {row' : Row} (h : row'.ow ≠ 1) (k : Nat) (row : Row) (e : (if r = k then some (some row') else none) = some (some row)) (h1 : row.ow = 1) : k < 100000 := by
  by_cases hk : r = k
  · rw [if_pos hk] at e; cases e; exact absurd h1 h
  · rw [if_neg hk] at e; cases e
theorem min_own {a l : Nat} (h : ownK a = true) (hl : l = 2 ∨ l = 4 ∨ l = 5) : (min a l = 2 ∨ min a l = 4 ∨ min a l = 5) ∧ ownK (min a l) = true ∧ leK (min a l) a = true := by
  rcases ownK_cases h with rfl | rfl | rfl <;> rcases hl with rfl | rfl | rfl <;> simp [ownK, leK]

theorem absorb_lv {x : Cv} {a : Ab} (h : m.absorb x = some a) : a.lv = 2 ∨ a.lv = 4 ∨ a.lv = 5 := by
  have lv : ∀ n, lvK n = 2 ∨ lvK n = 4 ∨ lvK n = 5 := by intro n; simp only [lvK]; split <;> simp
  revert h; simp only [Lk.absorb]
  repeat' split
  all_goals (intro h; first | (cases h; done) | (have := Option.some.inj h; subst this; first | (simp; done) | exact lv _))
theorem absorbs_lv : ∀ {vl : List Cv} {e c : Nat} {a : Abs}, m.absorbs e c vl = some a → a.lv = 2 ∨ a.lv = 4 ∨ a.lv = 5
  | [], e, c, a, h => by simp only [Lk.absorbs, Option.some.injEq] at h; subst h; simp
  | x :: vl, e, c, a, h => by
    simp only [Lk.absorbs] at h
    cases h1 : m.absorb x with
    | none => simp [h1] at h
    | some a1 =>
      cases h2 : m.absorbs e (c + 1) vl with
      | none => simp [h1, h2] at h
      | some a2 =>
        simp only [h1, h2, Option.some.injEq] at h; subst h
        have := absorb_lv h1
        have := absorbs_lv h2
        simp only; omega
/-- what is shared: rows that are there, of a kind that lets itself be frozen -/
theorem absorb_sh {x : Cv} {a : Ab} {r k : Nat} (h : m.absorb x = some a) (hs : a.sh = some (r, k)) : ∃ row, m.r r = some row ∧ ((k = 3 ∧ leK 4 row.ow = true) ∨ (k = 4 ∧ row.ow = 5)) := by
  revert h; simp only [Lk.absorb]
  repeat' split
  all_goals (intro h; first | (cases h; done) | (have := Option.some.inj h; subst this; simp only [reduceCtorEq, Option.some.injEq, Prod.mk.injEq] at hs))
  · obtain ⟨rfl, rfl⟩ := hs
    rename_i h1 h2 h3 _ h5
    exact ⟨_, by assumption, .inr ⟨rfl, by assumption⟩⟩
  · obtain ⟨rfl, rfl⟩ := hs
    exact ⟨_, by assumption, .inl ⟨rfl, by assumption⟩⟩
theorem absorbs_sh : ∀ {vl : List Cv} {e c : Nat} {a : Abs} {r k : Nat}, m.absorbs e c vl = some a → (r, k) ∈ a.sh → ∃ row, m.r r = some row ∧ ((k = 3 ∧ leK 4 row.ow = true) ∨ (k = 4 ∧ row.ow = 5))
  | [], e, c, a, r, k, h, hs => by simp only [Lk.absorbs, Option.some.injEq] at h; subst h; simp at hs
  | x :: vl, e, c, a, r, k, h, hs => by
    simp only [Lk.absorbs] at h
    cases h1 : m.absorb x with
    | none => simp [h1] at h
    | some a1 =>
      cases h2 : m.absorbs e (c + 1) vl with
      | none => simp [h1, h2] at h
      | some a2 =>
        simp only [h1, h2, Option.some.injEq] at h; subst h
        simp only at hs
        cases h3 : a1.sh with
        | none => rw [h3] at hs; exact absorbs_sh h2 hs
        | some p =>
          rw [h3] at hs
          rcases List.mem_cons.1 hs with h4 | h4
          · exact absorb_sh h1 (by rw [h3, ← h4])
          · exact absorbs_sh h2 h4
theorem absorbs_len : ∀ {vl : List Cv} {e c : Nat} {a : Abs}, m.absorbs e c vl = some a → a.cts.length = vl.length
  | [], e, c, a, h => by simp only [Lk.absorbs, Option.some.injEq] at h; subst h; rfl
  | x :: vl, e, c, a, h => by
    simp only [Lk.absorbs] at h
    cases h1 : m.absorb x with
    | none => simp [h1] at h
    | some a1 =>
      cases h2 : m.absorbs e (c + 1) vl with
      | none => simp [h1, h2] at h
      | some a2 =>
        simp only [h1, h2, Option.some.injEq] at h; subst h
        simp [absorbs_len h2]
/-- what is handed over: rows that are there, and are a cell's now -/
theorem absorb_mv {x : Cv} {a : Ab} {r : Nat} (h : m.absorb x = some a) (hs : a.mv = some r) : ∃ row, m.r r = some row ∧ x = .sw r ∧ a.ct = .l row.τ row.xs := by
  revert h; simp only [Lk.absorb]
  repeat' split
  all_goals (intro h; first | (cases h; done) | (have := Option.some.inj h; subst this; simp only [reduceCtorEq, Option.some.injEq] at hs))
  subst hs
  exact ⟨_, by assumption, rfl, rfl⟩
theorem absorbs_mv : ∀ {vl : List Cv} {e c : Nat} {a : Abs} {r e' c' : Nat}, m.absorbs e c vl = some a → (r, (e', c')) ∈ a.mv → ∃ row j, m.r r = some row ∧ e' = e ∧ c' = c + j ∧ vl[j]? = some (.sw r) ∧ a.cts[j]? = some (.l row.τ row.xs)
  | [], e, c, a, r, e', c', h, hs => by simp only [Lk.absorbs, Option.some.injEq] at h; subst h; simp at hs
  | x :: vl, e, c, a, r, e', c', h, hs => by
    simp only [Lk.absorbs] at h
    cases h1 : m.absorb x with
    | none => simp [h1] at h
    | some a1 =>
      cases h2 : m.absorbs e (c + 1) vl with
      | none => simp [h1, h2] at h
      | some a2 =>
        simp only [h1, h2, Option.some.injEq] at h; subst h
        simp only at hs
        have rest : (r, (e', c')) ∈ a2.mv → ∃ row j, m.r r = some row ∧ e' = e ∧ c' = c + j ∧ (x :: vl)[j]? = some (.sw r) ∧ (a1.ct :: a2.cts)[j]? = some (.l row.τ row.xs) := by
          intro h4
          obtain ⟨row, j, h5, h6, h7, h8, h9⟩ := absorbs_mv h2 h4
          exact ⟨row, j + 1, h5, h6, by omega, by simpa using h8, by simpa using h9⟩
        cases h3 : a1.mv with
        | none => rw [h3] at hs; exact rest hs
        | some k =>
          rw [h3] at hs
          rcases List.mem_cons.1 hs with h4 | h4
          · simp only [Prod.mk.injEq] at h4
            obtain ⟨rfl, rfl, rfl⟩ := h4
            obtain ⟨row, h5, rfl, h7⟩ := absorb_mv h1 h3
            exact ⟨row, 0, h5, rfl, rfl, rfl, by simpa using h7⟩
          · exact rest h4

/-- what is owned, and goes into a row, is handed over or shared -/
theorem absorb_own {x : Cv} {a : Ab} {r : Nat} {row : Row} (h : m.absorb x = some a) (hx : x = .sw r ∨ ∃ o n, x = .sl r o n) (hr : m.r r = some row) (ho : ownK row.ow = true) : a.mv = some r ∨ ∃ k, a.sh = some (r, k) := by
  rcases hx with rfl | ⟨o, n, rfl⟩
  · simp only [Lk.absorb, hr, ho] at h
    revert h; split
    · intro h; cases h
    · intro h; cases h; exact .inl rfl
  · simp only [Lk.absorb, Cv.row, Cv.inner, hr, ho] at h
    revert h
    repeat' split
    all_goals (intro h; first | (cases h; done) | (cases h; exact .inr ⟨_, rfl⟩) | skip)
    all_goals simp_all
    all_goals (subst h; exact .inr ⟨_, rfl⟩)
theorem absorbs_own : ∀ {vl : List Cv} {e c : Nat} {a : Abs} {x : Cv} {r : Nat} {row : Row}, m.absorbs e c vl = some a → x ∈ vl → (x = .sw r ∨ ∃ o n, x = .sl r o n) → m.r r = some row → ownK row.ow = true →
    r ∈ keys a.mv ∨ r ∈ keys a.sh
  | [], e, c, a, x, r, row, h, hx, _, _, _ => by simp at hx
  | y :: vl, e, c, a, x, r, row, h, hx, hxr, hr, ho => by
    simp only [Lk.absorbs] at h
    cases h1 : m.absorb y with
    | none => simp [h1] at h
    | some a1 =>
      cases h2 : m.absorbs e (c + 1) vl with
      | none => simp [h1, h2] at h
      | some a2 =>
        simp only [h1, h2, Option.some.injEq] at h; subst h
        simp only
        rcases List.mem_cons.1 hx with rfl | hx
        · rcases absorb_own h1 hxr hr ho with h3 | ⟨k, h3⟩
          · left; rw [h3]; simp [keys]
          · right; rw [h3]; simp [keys]
        · rcases absorbs_own h2 hx hxr hr ho with h3 | h3
          · left; split
            · simp [keys, h3]
            · exact h3
          · right; split
            · simp [keys, h3]
            · exact h3

end Go.Soft
