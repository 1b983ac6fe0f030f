/-
  The typed function of laws.FnExactShowTree answers true, for every list of nodes whose length and texts a machine can hold.
-/
import Derived.Test.YtlcebcpciagogaaFuns
import Derived.Laws.BitsLemmas
set_option linter.constructorNameAsVariable false
set_option linter.unusedVariables false
set_option linter.unusedSimpArgs false
namespace Go.Soft
open Go

theorem w64_id {n : Int} (h1 : -9223372036854775808 ≤ n) (h2 : n ≤ 9223372036854775807) : w64 n = n := by
  simp only [w64, IntKind.wrap_i64]; omega
theorem inR_ok {i : Nat} {n : Nat} (h : i < n) : inR (i : Int) n = true := by
  simp only [inR, Bool.and_eq_true, decide_eq_true_eq]; omega
theorem ba_self (a : ByteArray) : (a == a) = true := by
  cases a with
  | mk d => exact beq_self_eq_true (α := Array UInt8) d
theorem chk_true {R : Type} {k : Option R} {c : Bool} (h : c = true) : chk c k = k := by rw [h]; rfl

variable {R : Type}
def nz (x : Node) : Nat := x.Path.size + x.Head.size + x.Tail.size
def nzs : List Node → Nat
  | [] => 0
  | x :: l => nz x + nzs l
/-- what a machine can hold -/
def NOk (x : Node) : Prop := x.Path.size ≤ 9223372036854775807 ∧ x.Head.size ≤ 9223372036854775807 ∧ x.Tail.size ≤ 9223372036854775807

theorem szNode_eq (x : Node) (left : Int) (hx : NOk x) (h0 : 0 ≤ left) (h1 : left ≤ 1048576) (k : Int → Option R) : w_szNode x left k = k (if (nz x : Int) ≤ left then left - nz x else -1) := by
  obtain ⟨a1, a2, a3⟩ := hx
  have hz : nz x = x.Path.size + x.Head.size + x.Tail.size := rfl
  simp only [w_szNode]
  rw [w64_id (n := left - (x.Path.size : Int)) (by omega) (by omega)]
  by_cases c1 : left - (x.Path.size : Int) < 0
  · rw [decide_eq_true c1, cond_true, if_neg (by omega)]
  · rw [decide_eq_false c1, cond_false, w64_id (n := left - (x.Path.size : Int) - (x.Head.size : Int)) (by omega) (by omega)]
    by_cases c2 : left - (x.Path.size : Int) - (x.Head.size : Int) < 0
    · rw [decide_eq_true c2, cond_true, if_neg (by omega)]
    · rw [decide_eq_false c2, cond_false, w64_id (n := left - (x.Path.size : Int) - (x.Head.size : Int) - (x.Tail.size : Int)) (by omega) (by omega)]
      by_cases c3 : left - (x.Path.size : Int) - (x.Head.size : Int) - (x.Tail.size : Int) < 0
      · rw [decide_eq_true c3, cond_true, if_neg (by omega)]
      · rw [decide_eq_false c3, cond_false, if_pos (by omega)]
        congr 1; omega

theorem drop_cons {α : Type} {l : List α} {i : Nat} (h : i < l.length) (d : α) : l.drop i = l.getD i d :: l.drop (i + 1) := by
  rw [List.drop_eq_getElem_cons h]; simp [List.getD_eq_getElem?_getD, h]

theorem szNodeS_loop (n : Nat) (q0 q1 : Int → Option R) (a : List Node) (ha : ∀ x ∈ a, NOk x) (hlen : a.length ≤ 9223372036854775807) : ∀ (m i : Nat) (left : Int), a.length < m + i → i ≤ a.length → 0 ≤ left → left ≤ 1048576 →
    w_szNodeS_l5 n q0 q1 m left (i : Int) a = q0 (-1) ∨ ((nzs (a.drop i) : Int) ≤ left ∧ w_szNodeS_l5 n q0 q1 m left (i : Int) a = q1 (left - nzs (a.drop i)))
  | 0, i, left, h1, h2, _, _ => by omega
  | m + 1, i, left, h1, h2, h3, h4 => by
    simp only [w_szNodeS_l5]
    by_cases hi : i < a.length
    · have hmem : NOk (a.getD i dNode) := by
        have : a.getD i dNode = a[i] := by simp [List.getD_eq_getElem?_getD, hi]
        rw [this]; exact ha _ (List.getElem_mem _)
      rw [decide_eq_true (by omega), cond_true, chk_true (inR_ok hi), Int.toNat_natCast, szNode_eq _ _ hmem h3 h4]
      have hd := drop_cons hi dNode
      have hnz : nzs (a.drop i) = nz (a.getD i dNode) + nzs (a.drop (i + 1)) := by rw [hd]; rfl
      by_cases hc : (nz (a.getD i dNode) : Int) ≤ left
      · rw [if_pos hc, decide_eq_false (by omega), cond_false, w64_id (by omega) (by omega)]
        rcases szNodeS_loop n q0 q1 a ha hlen m (i + 1) (left - nz (a.getD i dNode)) (by omega) (by omega) (by omega) (by omega) with h | ⟨h5, h6⟩
        · left; exact_mod_cast h
        · right
          refine ⟨by omega, ?_⟩
          have h6' : w_szNodeS_l5 n q0 q1 m (left - ↑(nz (a.getD i dNode))) (↑i + 1) a = q1 (left - ↑(nz (a.getD i dNode)) - ↑(nzs (List.drop (i + 1) a))) := by exact_mod_cast h6
          rw [h6']; congr 1; omega
      · rw [if_neg hc]
        exact .inl rfl
    · right
      have : i = a.length := by omega
      subst this
      rw [decide_eq_false (by omega), cond_false]
      simp only [List.drop_length, nzs]
      exact ⟨by omega, by simp⟩
theorem szNodeS_eq (n : Nat) (a : List Node) (ha : ∀ x ∈ a, NOk x) (hlen : a.length ≤ 9223372036854775807) (hn : a.length < n) (k : Int → Option R) :
    w_szNodeS n a 1048576 k = k (-1) ∨ ∃ left : Int, 0 ≤ left ∧ a.length + nzs a ≤ 1048576 ∧ w_szNodeS n a 1048576 k = k left := by
  simp only [w_szNodeS]
  rw [w64_id (by omega) (by omega)]
  by_cases c : (1048576 : Int) - (a.length : Int) < 0
  · rw [decide_eq_true c, cond_true]; exact .inl rfl
  · rw [decide_eq_false c, cond_false]
    rcases szNodeS_loop n (fun x => k x) (fun x => k x) a ha hlen n 0 (1048576 - a.length) (by omega) (by omega) (by omega) (by omega) with h | ⟨h1, h2⟩
    · exact .inl h
    · right
      refine ⟨_, ?_, ?_, h2⟩
      · omega
      · simp only [List.drop_zero] at h1; omega

theorem toNodeS_loop (n : Nat) (q : List Node → Option R) (a : List Node) (hlen : a.length ≤ 9223372036854775807) : ∀ (m i : Nat) (out : List Node), a.length < m + i → i ≤ a.length → out.length = a.length → out.take i = a.take i →
    w_toNodeS_l3 n q m (i : Int) a out = q a
  | 0, i, out, h1, h2, _, _ => by omega
  | m + 1, i, out, h1, h2, h3, h4 => by
    simp only [w_toNodeS_l3]
    by_cases hi : i < a.length
    · rw [decide_eq_true (by omega), cond_true, chk_true (inR_ok hi)]
      simp only [w_toNode]
      rw [chk_true (inR_ok (by omega)), w64_id (by omega) (by omega), Int.toNat_natCast]
      have := toNodeS_loop n q a hlen m (i + 1) (out.set i (a.getD i dNode)) (by omega) (by omega) (by simpa using h3) (by
        apply List.ext_getElem?
        intro j
        rw [List.getElem?_take, List.getElem?_take]
        by_cases hj : j < i + 1
        · rw [if_pos hj, if_pos hj, List.getElem?_set]
          by_cases hji : i = j
          · subst hji; rw [if_pos rfl, if_pos (by omega)]
            simp [List.getD_eq_getElem?_getD, hi]
          · rw [if_neg hji]
            have h5 := congrArg (fun l => l[j]?) h4
            simp only [List.getElem?_take] at h5
            rwa [if_pos (by omega), if_pos (by omega)] at h5
        · rw [if_neg hj, if_neg hj])
      exact_mod_cast this
    · have : i = a.length := by omega
      subst this
      rw [decide_eq_false (by omega), cond_false]
      have : out = a := by rw [← List.take_length (l := a), ← h4, ← h3, List.take_length]
      rw [this]
theorem toNodeS_eq (n : Nat) (a : List Node) (hlen : a.length ≤ 1048576) (hn : a.length < n) (k : List Node → Option R) : w_toNodeS n a k = k a := by
  simp only [w_toNodeS]
  rw [chk_true (by simp only [mkOk, Bool.and_eq_true, beq_self_eq_true, decide_eq_true_eq, true_and, Int.toNat_natCast]; exact ⟨by omega, Nat.ble_eq_true_of_le (by simp only [BIG]; omega)⟩)]
  have := toNodeS_loop n (fun out => k out) a (by omega) n 0 (List.replicate (a.length : Int).toNat dNode) (by omega) (by omega) (by simp) (by simp)
  exact_mod_cast this

/-! ### the listing -/
def line (x : Node) : ByteArray := bif x.Dir then x.Path ++ S [47, 10] else (((x.Path ++ S [32]) ++ x.Head) ++ x.Tail) ++ S [10]
def listing (s : ByteArray) (l : List Node) : ByteArray := l.foldl (fun s x => s ++ line x) s
theorem S_size (l : List UInt8) : (S l).size = l.length := rfl
theorem line_size (x : Node) : (line x).size ≤ nz x + 2 := by
  simp only [line, nz]
  cases x.Dir <;> simp [ByteArray.size_append, S_size] <;> omega
theorem app_assoc (a b c : ByteArray) : (a ++ b) ++ c = a ++ (b ++ c) := by
  apply ByteArray.ext
  simp [ByteArray.data_append, Array.append_assoc]
theorem sizeOk_of {a b : ByteArray} (h : a.size + b.size ≤ 4611686018427387904) : sizeOk a b = true := decide_eq_true h

theorem iShow_loop (n : Nat) (q : ByteArray → Option R) (a : List Node) (hz : a.length + nzs a ≤ 1048576) : ∀ (m i : Nat) (out : ByteArray), a.length < m + i → i ≤ a.length → out.size + nzs (a.drop i) + 2 * (a.length - i) ≤ 4194304 →
    i_ShowTree_l3 n q m out (a.length : Int) (i : Int) a = q (listing out (a.drop i))
  | 0, i, out, h1, h2, _ => by omega
  | m + 1, i, out, h1, h2, h3 => by
    simp only [i_ShowTree_l3]
    by_cases hi : i < a.length
    · have hd := drop_cons hi dNode
      have hnz : nzs (a.drop i) = nz (a.getD i dNode) + nzs (a.drop (i + 1)) := by rw [hd]; rfl
      have hls := line_size (a.getD i dNode)
      rw [decide_eq_true (by omega), cond_true, chk_true (inR_ok hi), w64_id (by omega) (by omega), Int.toNat_natCast]
      have ih := iShow_loop n q a hz m (i + 1) (out ++ line (a.getD i dNode)) (by omega) (by omega) (by rw [ByteArray.size_append]; omega)
      have hl : listing out (a.drop i) = listing (out ++ line (a.getD i dNode)) (a.drop (i + 1)) := by rw [hd]; rfl
      rw [hl]
      generalize a.getD i dNode = x at *
      have hb : nz x ≤ 4194304 := by omega
      simp only [nz] at hb
      cases hdir : x.Dir with
      | true =>
        rw [cond_true, chk_true (sizeOk_of (by simp only [S_size, List.length]; omega)), chk_true (sizeOk_of (by simp only [ByteArray.size_append, S_size, List.length]; omega))]
        have e : line x = x.Path ++ S [47, 10] := by simp only [line, hdir, cond_true]
        rw [e] at ih ⊢
        exact_mod_cast ih
      | false =>
        rw [cond_false, chk_true (sizeOk_of (by simp only [S_size, List.length]; omega)), chk_true (sizeOk_of (by simp only [ByteArray.size_append, S_size, List.length]; omega)),
          chk_true (sizeOk_of (by simp only [ByteArray.size_append, S_size, List.length]; omega)), chk_true (sizeOk_of (by simp only [ByteArray.size_append, S_size, List.length]; omega)),
          chk_true (sizeOk_of (by simp only [ByteArray.size_append, S_size, List.length]; omega))]
        have e : line x = (((x.Path ++ S [32]) ++ x.Head) ++ x.Tail) ++ S [10] := by simp only [line, hdir, cond_false]
        rw [e] at ih ⊢
        exact_mod_cast ih
    · have : i = a.length := by omega
      subst this
      rw [decide_eq_false (by omega), cond_false]
      simp [listing]
theorem sShow_loop (n : Nat) (q : ByteArray → Option R) (a : List Node) (hz : a.length + nzs a ≤ 1048576) : ∀ (m i : Nat) (out : ByteArray), a.length < m + i → i ≤ a.length → out.size + nzs (a.drop i) + 2 * (a.length - i) ≤ 4194304 →
    s_ShowTree_l3 n q m out (i : Int) a = q (listing out (a.drop i))
  | 0, i, out, h1, h2, _ => by omega
  | m + 1, i, out, h1, h2, h3 => by
    simp only [s_ShowTree_l3]
    by_cases hi : i < a.length
    · have hd := drop_cons hi dNode
      have hnz : nzs (a.drop i) = nz (a.getD i dNode) + nzs (a.drop (i + 1)) := by rw [hd]; rfl
      have hls := line_size (a.getD i dNode)
      rw [decide_eq_true (by omega), cond_true, chk_true (inR_ok hi), w64_id (by omega) (by omega), Int.toNat_natCast]
      have ih := sShow_loop n q a hz m (i + 1) (out ++ line (a.getD i dNode)) (by omega) (by omega) (by rw [ByteArray.size_append]; omega)
      have hl : listing out (a.drop i) = listing (out ++ line (a.getD i dNode)) (a.drop (i + 1)) := by rw [hd]; rfl
      rw [hl]
      generalize a.getD i dNode = x at *
      have hb : nz x ≤ 4194304 := by omega
      simp only [nz] at hb
      cases hdir : x.Dir with
      | true =>
        rw [cond_true, chk_true (inR_ok hi), chk_true (sizeOk_of (by omega)), chk_true (sizeOk_of (by simp only [ByteArray.size_append, S_size, List.length]; omega))]
        have e : line x = x.Path ++ S [47, 10] := by simp only [line, hdir, cond_true]
        rw [e] at ih ⊢
        rw [app_assoc]
        exact_mod_cast ih
      | false =>
        rw [cond_false, chk_true (inR_ok hi), chk_true (sizeOk_of (by omega)), chk_true (sizeOk_of (by simp only [ByteArray.size_append, S_size, List.length]; omega)), chk_true (inR_ok hi),
          chk_true (sizeOk_of (by simp only [ByteArray.size_append, S_size, List.length]; omega)), chk_true (inR_ok hi), chk_true (sizeOk_of (by simp only [ByteArray.size_append, S_size, List.length]; omega)),
          chk_true (sizeOk_of (by simp only [ByteArray.size_append, S_size, List.length]; omega))]
        have e : line x = (((x.Path ++ S [32]) ++ x.Head) ++ x.Tail) ++ S [10] := by simp only [line, hdir, cond_false]
        rw [e] at ih ⊢
        simp only [app_assoc] at ih ⊢
        exact_mod_cast ih
    · have : i = a.length := by omega
      subst this
      rw [decide_eq_false (by omega), cond_false]
      simp [listing]

theorem eqNodeS_loop (n : Nat) (q0 : Bool → Option R) (q1 : Option R) (a : List Node) (hlen : a.length ≤ 1048576) : ∀ (m i : Nat), a.length < m + i → i ≤ a.length → w_eqNodeS_l4 n q0 q1 m (i : Int) a a = q1
  | 0, i, h1, h2 => by omega
  | m + 1, i, h1, h2 => by
    simp only [w_eqNodeS_l4]
    by_cases hi : i < a.length
    · rw [decide_eq_true (by omega), cond_true, chk_true (inR_ok hi), chk_true (inR_ok hi), w64_id (by omega) (by omega)]
      simp only [w_eqNode, ba_self, beq_self_eq_true, Bool.not_true, cond_false]
      have := eqNodeS_loop n q0 q1 a hlen m (i + 1) (by omega) (by omega)
      exact_mod_cast this
    · rw [decide_eq_false (by omega), cond_false]
theorem eqNodeS_eq (n : Nat) (a : List Node) (hlen : a.length ≤ 1048576) (hn : a.length < n) (k : Bool → Option R) : w_eqNodeS n a a k = k true := by
  simp only [w_eqNodeS, beq_self_eq_true, Bool.not_true, cond_false]
  have := eqNodeS_loop n (fun x => k x) (k true) a hlen n 0 (by omega) (by omega)
  exact_mod_cast this

theorem law (n : Nat) (a : List Node) (ha : ∀ x ∈ a, NOk x) (hlen : a.length ≤ 9223372036854775807) (hn : a.length < n) (k : Bool → Option R) : w_FnExactShowTree n a k = k true := by
  simp only [w_FnExactShowTree]
  rcases szNodeS_eq n a ha hlen hn _ with h | ⟨left, h1, h2, h3⟩
  · rw [h]; rfl
  · rw [h3, decide_eq_false (by omega), cond_false, toNodeS_eq n a (by omega) hn]
    have e0 : eS.size = 0 := rfl
    have hs : ∀ q : ByteArray → Option R, s_ShowTree n a q = q (listing eS a) := by
      intro q
      simp only [s_ShowTree]
      have := sShow_loop n (fun s => q s) a h2 n 0 eS (by omega) (by omega) (by rw [e0]; simp only [List.drop_zero]; omega)
      exact_mod_cast this
    have hi : ∀ q : ByteArray → Option R, i_ShowTree n a q = q (listing eS a) := by
      intro q
      simp only [i_ShowTree]
      have := iShow_loop n (fun s => q s) a h2 n 0 eS (by omega) (by omega) (by rw [e0]; simp only [List.drop_zero]; omega)
      exact_mod_cast this
    rw [hs, toNodeS_eq n a (by omega) hn, hi]
    simp only [ba_self, Bool.not_true, cond_false]
    rw [toNodeS_eq n a (by omega) hn, eqNodeS_eq n a (by omega) hn]
    simp
end Go.Soft
