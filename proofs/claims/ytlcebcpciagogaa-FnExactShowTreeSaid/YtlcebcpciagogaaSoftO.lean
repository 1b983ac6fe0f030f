/-
  SoftO: rows under other keys, of other kinds.
-/
import Derived.Test.YtlcebcpciagogaaSoftN
set_option linter.constructorNameAsVariable false
set_option linter.unusedSimpArgs false
set_option linter.unusedVariables false
namespace Go.Soft
open Go
variable {X : Ctx} {m M : Lk} {γ γ' : Gh} {w w' : World} {ρ : Operand → Value} {S : St} {δ : Dl}

/-- which row is which, of which kind; whose the others' blocks are; the variables -/
structure Rb where
  r : Nat → Option (Nat × Nat)
  d : Option Ow
  v : Nat → Option Ow
def topO (k d : Nat) : Option Ow := match ownK d with | true => some (.r k) | false => match d with | 3 => some .fz | _ => none
def nesO (k d e c : Nat) : Option Ow := match d with | 5 => some (.n k e c) | 4 => some .fz | 3 => some .fz | _ => none
def Rb.f (a : Rb) : Ow → Option Ow
  | .r r => match a.r r with | some (k, d) => topO k d | none => a.d
  | .n r e c => match a.r r with | some (k, d) => nesO k d e c | none => a.d
  | .v k => a.v k
  | .fz => some .fz
  | .x => some .x

theorem leK_inv {d a : Nat} (h : leK d a = true) : d = 1 ∨ (d = 2 ∧ ownK a = true) ∨ (d = 3 ∧ (a = 3 ∨ a = 4 ∨ a = 5)) ∨ (d = 4 ∧ (a = 4 ∨ a = 5)) ∨ (d = 5 ∧ a = 5) := by
  revert h; simp only [leK]; split
  · simp
  · intro h; simp [h]
  · split <;> simp
  · split <;> simp
  · split <;> simp
  · simp

theorem RowR.relabel {a : Rb} {O O' : OM} {r k d : Nat} {row : Row} {v : Value} {cs : List Value} (h : RowR X O w r row v cs) (ha : ownK row.ow = true → a.r r = some (k, d)) (hle : leK d row.ow = true)
    (hb : ∀ g o, w.heap[g]? = some o → InR r row.ow (O g) → w'.heap[g]? = some o ∧ O' g = (O g).bind a.f) : RowR X O' w' k { row with ow := d } v cs := by
  obtain ⟨τ, xs, ow⟩ := row
  simp only at ha hle hb
  have no : (none : Option Ow).bind a.f = none := rfl
  have fz : (some Ow.fz).bind a.f = some .fz := rfl
  refine h.re hle (fun g o hg hi => ?_) (fun e c g o hg hi => ?_)
  · obtain ⟨h1, h2⟩ := hb g o hg (.inl hi)
    refine ⟨h1, ?_⟩
    rw [h2]
    simp only at hi
    cases hown : ownK ow with
    | true =>
      have h3 : topC r ow = .own (.r r) := by simp [topC, hown]
      rw [h3] at hi
      have hi : O g = some (.r r) := hi
      rw [hi]
      show In (topC k d) (a.f (.r r))
      simp only [Rb.f, ha hown]
      rcases leK_inv hle with rfl | ⟨rfl, _⟩ | ⟨rfl, _⟩ | ⟨rfl, _⟩ | ⟨rfl, _⟩
      · exact .inl rfl
      all_goals exact rfl
    | false =>
      have hnot : ow ≠ 4 ∧ ow ≠ 5 := by constructor <;> (rintro rfl; simp [ownK] at hown)
      have h3 : (ow = 3 ∧ topC r ow = .fz) ∨ (ow ≠ 3 ∧ topC r ow = .bor) := by
        by_cases h : ow = 3
        · subst h; exact .inl ⟨rfl, rfl⟩
        · refine .inr ⟨h, ?_⟩
          simp only [topC, hown]
          try (split <;> first | exact absurd rfl h | rfl)
      rcases h3 with ⟨rfl, h3⟩ | ⟨hn3, h3⟩
      · have hi : O g = some .fz := hi
        rw [hi, fz]
        rcases leK_inv hle with rfl | ⟨_, h⟩ | ⟨rfl, _⟩ | ⟨_, h⟩ | ⟨_, h⟩
        · exact .inr rfl
        · rw [hown] at h; cases h
        · exact rfl
        · rcases h with h | h <;> cases h
        · cases h
      · rw [h3] at hi
        rcases leK_inv hle with rfl | ⟨_, h⟩ | ⟨_, h⟩ | ⟨_, h⟩ | ⟨_, h⟩
        · rcases hi with hi | hi <;> rw [hi]
          · exact .inl rfl
          · exact .inr rfl
        · rw [hown] at h; cases h
        · omega
        · omega
        · omega
  · obtain ⟨h1, h2⟩ := hb g o hg (.inr ⟨e, c, hi⟩)
    refine ⟨h1, ?_⟩
    rw [h2]
    simp only at hi
    by_cases h5 : ow = 5
    · subst h5
      have hi : O g = some (.n r e c) := hi
      rw [hi]
      show In (nesC k e c d) (a.f (.n r e c))
      simp only [Rb.f, ha rfl]
      rcases leK_inv hle with rfl | ⟨rfl, _⟩ | ⟨rfl, _⟩ | ⟨rfl, _⟩ | ⟨rfl, _⟩
      · exact .inl rfl
      · exact .inl rfl
      all_goals exact rfl
    · by_cases h43 : ow = 4 ∨ ow = 3
      · have hi : O g = some .fz := by rcases h43 with rfl | rfl <;> exact hi
        rw [hi, fz]
        rcases leK_inv hle with rfl | ⟨rfl, _⟩ | ⟨rfl, _⟩ | ⟨rfl, _⟩ | ⟨rfl, h⟩
        · exact .inr rfl
        · exact .inr rfl
        · exact rfl
        · exact rfl
        · exact absurd h h5
      · have h3 : nesC r e c ow = .bor := by
          simp only [nesC]
          try (split <;> first | rfl | (exfalso; omega))
        rw [h3] at hi
        rcases leK_inv hle with rfl | ⟨rfl, _⟩ | ⟨rfl, h⟩ | ⟨rfl, h⟩ | ⟨rfl, h⟩
        · rcases hi with hi | hi <;> rw [hi]
          · exact .inl rfl
          · exact .inr rfl
        · rcases hi with hi | hi <;> rw [hi]
          · exact .inl rfl
          · exact .inr rfl
        · omega
        · omega
        · omega

theorem row_same {O O' : OM} {k : Nat} {row : Row} {v : Value} {cs : List Value} (h : RowR X O w k row v cs)
    (hf : ∀ g o, w.heap[g]? = some o → InR k row.ow (O g) → w'.heap[g]? = some o ∧ O' g = O g) : RowR X O' w' k row v cs := by
  refine ⟨h.top.re (c' := topC k row.ow) (fun g o hg hi => ?_) id, fun e c ct he hc => ?_⟩
  · obtain ⟨h1, h2⟩ := hf g o hg (.inl hi); exact ⟨h1, h2 ▸ hi⟩
  · obtain ⟨u, hu, hr⟩ := h.cel e c ct he hc
    exact ⟨u, hu, hr.re (fun g o hg hi => by obtain ⟨h1, h2⟩ := hf g o hg (.inr ⟨e, c, hi⟩); exact ⟨h1, h2 ▸ hi⟩) id⟩

end Go.Soft
