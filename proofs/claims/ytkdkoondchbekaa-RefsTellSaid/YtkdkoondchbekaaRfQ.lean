/-
  HTML's names by one text; digits. No program in sight.
-/
import Derived.Test.YtkdkoondchbekaaRfP
import Derived.Lib.IndexLaws
import Derived.Lib.CountLaws
namespace Go.Proofs.Ytkdkoondchbekaa
open Go.Lib
def htmL : List (List UInt8 × Int) := [([110, 98, 115, 112], 160), ([105, 101, 120, 99, 108], 161), ([99, 101, 110, 116], 162), ([112, 111, 117, 110, 100], 163), ([121, 101, 110], 165), ([115, 101, 99, 116], 167), ([99, 111, 112, 121], 169), ([108, 97, 113, 117, 111], 171), ([114, 101, 103], 174), ([100, 101, 103], 176), ([112, 108, 117, 115, 109, 110], 177), ([112, 97, 114, 97], 182), ([109, 105, 100, 100, 111, 116], 183), ([114, 97, 113, 117, 111], 187), ([102, 114, 97, 99, 49, 50], 189), ([105, 113, 117, 101, 115, 116], 191), ([65, 103, 114, 97, 118, 101], 192), ([65, 97, 99, 117, 116, 101], 193), ([65, 117, 109, 108], 196), ([65, 114, 105, 110, 103], 197), ([65, 69, 108, 105, 103], 198), ([67, 99, 101, 100, 105, 108], 199), ([69, 97, 99, 117, 116, 101], 201), ([78, 116, 105, 108, 100, 101], 209), ([79, 117, 109, 108], 214), ([116, 105, 109, 101, 115], 215), ([79, 115, 108, 97, 115, 104], 216), ([85, 117, 109, 108], 220), ([115, 122, 108, 105, 103], 223), ([97, 103, 114, 97, 118, 101], 224), ([97, 97, 99, 117, 116, 101], 225), ([97, 117, 109, 108], 228), ([99, 99, 101, 100, 105, 108], 231), ([101, 97, 99, 117, 116, 101], 233), ([110, 116, 105, 108, 100, 101], 241), ([111, 117, 109, 108], 246), ([117, 117, 109, 108], 252), ([110, 100, 97, 115, 104], 8211), ([109, 100, 97, 115, 104], 8212), ([104, 101, 108, 108, 105, 112], 8230)]
def joinS : List (List UInt8 × Int) → List UInt8
  | [] => [32]
  | p :: r => 32 :: (p.1 ++ joinS r)
def htmAt (n : List UInt8) : List (List UInt8 × Int) → Option (Nat × Int)
  | [] => none
  | p :: r => if p.1 = n then some (0, p.2) else (htmAt n r).map fun q => (q.1 + 1, q.2)
def htmU (n : List UInt8) : Int × Bool := match htmAt n htmL with
  | none => (0, false)
  | some q => (q.2, true)
theorem index_consR (c : UInt8) (t sub : List UInt8) (hn : sub.isPrefixOf (c :: t) = false) : Lib.index (c :: t) sub = if Lib.index t sub = -1 then -1 else Lib.index t sub + 1 := by
  rw [Lib.index, hn]
  simp
theorem index_preR (s sub : List UInt8) (h : sub.isPrefixOf s = true) : Lib.index s sub = 0 := Lib.index_first (i := 0) (Nat.zero_le _) (by simpa [Lib.occAt] using h) (fun _ h => absurd h (Nat.not_lt_zero _))
theorem joinS_head : ∀ l, ∃ t, joinS l = 32 :: t
  | [] => ⟨[], rfl⟩
  | p :: r => ⟨p.1 ++ joinS r, rfl⟩
/-- one word and its blank stand at the head of another and its blank: they are the same. -/
theorem word_pre : ∀ (n m t : List UInt8), 32 ∉ n → 32 ∉ m → ((n ++ [32]).isPrefixOf (m ++ 32 :: t) = decide (m = n))
  | [], [], t, _, _ => by simp [List.isPrefixOf]
  | [], c :: m, t, _, h => by
    rw [List.mem_cons, not_or] at h
    simp [List.isPrefixOf, h.1]
  | c :: n, [], t, h, _ => by
    rw [List.mem_cons, not_or] at h
    have : (c == 32) = false := by simpa using fun e : c = 32 => h.1 e.symm
    simp [List.isPrefixOf, this]
  | c :: n, d :: m, t, h1, h2 => by
    rw [List.mem_cons, not_or] at h1 h2
    have ih := word_pre n m t h1.2 h2.2
    simp only [List.cons_append, List.isPrefixOf, ih]
    by_cases e : c = d
    · subst e; simp
    · have e2 : (c == d) = false := by simpa using e
      have e3 : ¬ (d = c) := fun x => e x.symm
      simp [e2, e3]
/-- ahead of the next blank no such word begins. -/
theorem index_word (n : List UInt8) : ∀ (m t : List UInt8), 32 ∉ m → Lib.index (m ++ t) (32 :: n) = if Lib.index t (32 :: n) = -1 then -1 else Lib.index t (32 :: n) + m.length
  | [], t, _ => by simp
  | c :: m, t, h => by
    rw [List.mem_cons, not_or] at h
    have e : (32 == c) = false := by simpa using h.1
    rw [List.cons_append, index_consR c (m ++ t) _ (by simp [List.isPrefixOf, e]), index_word n m t h.2]
    have := Lib.index_ge t (32 :: n)
    by_cases h1 : Lib.index t (32 :: n) = -1
    · rw [if_pos h1, if_pos h1]; simp
    · rw [if_neg h1, if_neg h1, if_neg (by omega)]; simp; omega
theorem html_find (n : List UInt8) (hn : 32 ∉ n) (h0 : n ≠ []) : ∀ (L : List (List UInt8 × Int)), (∀ p ∈ L, 32 ∉ p.1) → match htmAt n L with
    | none => Lib.index (joinS L) (32 :: (n ++ [32])) = -1
    | some q => ∃ p : Nat, Lib.index (joinS L) (32 :: (n ++ [32])) = p ∧ p ≤ (joinS L).length ∧ ((joinS L).take p).count 32 = q.1 ∧ (L.map (·.2))[q.1]? = some q.2
  | [], _ => by
    show Lib.index [32] (32 :: (n ++ [32])) = -1
    have : (32 :: (n ++ [32])).isPrefixOf [32] = false := by cases n <;> simp [List.isPrefixOf]
    rw [index_consR 32 [] _ this]
    simp [Lib.index]
  | p :: r, h => by
    have ih := html_find n hn h0 r fun q hq => h q (List.mem_cons_of_mem _ hq)
    have hp := h p (List.mem_cons_self ..)
    obtain ⟨t, ht⟩ := joinS_head r
    have hpre : (32 :: (n ++ [32])).isPrefixOf (joinS (p :: r)) = decide (p.1 = n) := by
      rw [joinS, ht]
      show ((32 : UInt8) == 32 && (n ++ [32]).isPrefixOf (p.1 ++ 32 :: t)) = _
      rw [word_pre n p.1 t hn hp]; rfl
    rw [htmAt]
    by_cases e : p.1 = n
    · rw [if_pos e]
      exact ⟨0, index_preR _ _ (by rw [hpre, decide_eq_true e]), Nat.zero_le _, by simp, by simp⟩
    · rw [if_neg e]
      have h1 : Lib.index (joinS (p :: r)) (32 :: (n ++ [32])) = if Lib.index (joinS r) (32 :: (n ++ [32])) = -1 then -1 else Lib.index (joinS r) (32 :: (n ++ [32])) + (p.1.length + 1 : Nat) := by
        have hge := Lib.index_ge (joinS r) (32 :: (n ++ [32]))
        rw [joinS] at hpre ⊢
        rw [index_consR 32 _ _ (by rw [hpre, decide_eq_false e]), index_word _ p.1 (joinS r) hp]
        by_cases h2 : Lib.index (joinS r) (32 :: (n ++ [32])) = -1
        · rw [if_pos h2, if_pos h2]; simp
        · rw [if_neg h2, if_neg h2, if_neg (by omega)]; omega
      cases hr : htmAt n r with
      | none =>
        rw [hr] at ih
        show Lib.index _ _ = -1
        rw [h1, if_pos ih]
      | some q =>
        rw [hr] at ih
        obtain ⟨k, i1, i2, i3, i4⟩ := ih
        refine ⟨k + (p.1.length + 1), ?_, ?_, ?_, ?_⟩
        · rw [h1, i1, if_neg (by omega)]; omega
        · rw [joinS, List.length_cons, List.length_append]; omega
        · rw [joinS, show k + (p.1.length + 1) = (p.1.length + k) + 1 by omega, List.take_succ_cons, List.take_length_add_append, List.count_cons, List.count_append, List.count_eq_zero.2 hp, i3]
          simp
        · simpa using i4
theorem htmL_words : ∀ p ∈ htmL, 32 ∉ p.1 := by decide
/-- what the digits that are laid ahead keep. -/
theorem val_step (b n d c : Int) (x : List Int) (r : Int) (hc : worthN c = d) (hd : d < b) (h : valN b (n * b + d) x = some r) : valN b n (c :: x) = some r := by
  rw [valN, hc, if_pos hd]; exact h
theorem worth_dec (d : Int) (h0 : 0 ≤ d) (h1 : d < 10) : worthN (48 + d) = d := by unfold worthN; rw [if_pos (by omega)]; omega
theorem worth_hex (d : Int) (h0 : 0 ≤ d) (h1 : d < 16) : worthN (if d < 10 then 48 + d else 87 + d) = d := by
  unfold worthN
  by_cases h : d < 10
  · rw [if_pos h, if_pos (by omega)]; omega
  · rw [if_neg h, if_neg (by omega), if_pos (by omega)]; omega
theorem num_dec (x : List Int) (r : Int) (h0 : x ≠ []) (h1 : x.head? ≠ some 120) (h : valN 10 0 x = some r) : numN (35 :: x) = if chB r then (r, true, true) else (0, true, false) := by
  have hd : digN x = (10, x) := by
    unfold digN
    split
    · exact absurd rfl h1
    · rfl
  rw [numN, hd]
  dsimp only
  rw [if_neg h0, h]
theorem num_hex (x : List Int) (r : Int) (h0 : x ≠ []) (h : valN 16 0 x = some r) : numN (35 :: 120 :: x) = if chB r then (r, true, true) else (0, true, false) := by
  rw [numN, show digN (120 :: x) = (16, x) from rfl]
  dsimp only
  rw [if_neg h0, h]
/-- a number that is held at a bound is a Char just as it is. -/
theorem val_min (b M : Int) (hb : 1 ≤ b) (hM : 0 ≤ M) (v d : Int) (hd : 0 ≤ d) (hv : 0 ≤ v) : min (min v M * b + d) M = min (v * b + d) M := by
  by_cases h : v ≤ M
  · rw [Int.min_eq_left h]
  · have h1 : M ≤ v := by omega
    rw [Int.min_eq_right h1]
    have e1 : M ≤ M * b + d := by
      have := Int.mul_le_mul_of_nonneg_left hb hM
      omega
    have e2 : M ≤ v * b + d := by
      have := Int.mul_le_mul_of_nonneg_left hb hv
      omega
    rw [Int.min_eq_right e1, Int.min_eq_right e2]
theorem ch_min (M v : Int) (hM : 1114112 ≤ M) : chB (min v M) = chB v ∧ (chB v = true → min v M = v) := by
  by_cases h : v ≤ M
  · rw [Int.min_eq_left h]; exact ⟨rfl, fun _ => rfl⟩
  · have h1 : M ≤ v := by omega
    rw [Int.min_eq_right h1]
    have e : ∀ x : Int, 1114112 ≤ x → chB x = false := by
      intro x hx
      cases hf : chB x with
      | false => rfl
      | true => rw [chB_iff] at hf; omega
    rw [e M hM, e v (by omega)]
    exact ⟨rfl, fun h => by cases h⟩
theorem worthN_lo (c : Int) : 0 ≤ worthN c ∧ worthN c ≤ 16 := by unfold worthN; (repeat' split) <;> omega
theorem valN_lo (b : Int) (hb : 0 ≤ b) : ∀ (v : Int) (l : List Int) (r : Int), 0 ≤ v → valN b v l = some r → 0 ≤ r
  | v, [], r, hv, h => by cases h; exact hv
  | v, c :: t, r, hv, h => by
    rw [valN] at h
    split at h
    · have := worthN_lo c
      have h2 := Int.mul_nonneg hv hb
      exact valN_lo b hb _ t r (by omega) h
    · cases h
end Go.Proofs.Ytkdkoondchbekaa
