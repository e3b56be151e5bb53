/-
  Spans: how many bytes from a place on are of a kind; parts of a text as numbers. No program in sight.
-/
import Derived.Test.YtjemlaiciacnpaaMeP
namespace Go.Proofs.Ytjemlaiciacnpaa
def spanN (P : Int → Bool) (s : ByteArray) (k : Nat) : Nat := (((nums s).drop k).takeWhile P).length
theorem spanN_yes {P : Int → Bool} {s : ByteArray} {k : Nat} (h : k < s.size) (hp : P (s[k].toNat : Int) = true) : spanN P s k = spanN P s (k + 1) + 1 := by
  unfold spanN
  rw [nums_drop s k h, List.takeWhile_cons, hp]
  rfl
theorem spanN_no {P : Int → Bool} {s : ByteArray} {k : Nat} (h : k < s.size) (hp : P (s[k].toNat : Int) = false) : spanN P s k = 0 := by
  unfold spanN
  rw [nums_drop s k h, List.takeWhile_cons, hp]
  rfl
theorem spanN_end {P : Int → Bool} {s : ByteArray} {k : Nat} (h : s.size ≤ k) : spanN P s k = 0 := by
  unfold spanN
  rw [nums_drop_end s k h]
  rfl
theorem takeWhile_len_le {α : Type} (P : α → Bool) : ∀ l : List α, (l.takeWhile P).length ≤ l.length
  | [] => Nat.le_refl _
  | a :: l => by
    rw [List.takeWhile_cons]
    split
    · have := takeWhile_len_le P l
      simp only [List.length_cons]
      omega
    · simp
theorem drop_takeWhile {α : Type} (P : α → Bool) : ∀ l : List α, l.drop (l.takeWhile P).length = l.dropWhile P
  | [] => rfl
  | a :: l => by
    rw [List.takeWhile_cons, List.dropWhile_cons]
    cases P a
    · rfl
    · exact drop_takeWhile P l
theorem take_takeWhile {α : Type} (P : α → Bool) : ∀ l : List α, l.take (l.takeWhile P).length = l.takeWhile P
  | [] => rfl
  | a :: l => by
    rw [List.takeWhile_cons]
    cases P a
    · rfl
    · simp only [if_true, List.length_cons, List.take_succ_cons, take_takeWhile P l]
theorem spanN_le (P : Int → Bool) (s : ByteArray) (k : Nat) (h : k ≤ s.size) : k + spanN P s k ≤ s.size := by
  have h1 := takeWhile_len_le P ((nums s).drop k)
  rw [List.length_drop, nums_length] at h1
  unfold spanN
  omega
theorem drop_span (P : Int → Bool) (s : ByteArray) (k : Nat) : (nums s).drop (k + spanN P s k) = ((nums s).drop k).dropWhile P := by
  unfold spanN
  rw [← List.drop_drop, drop_takeWhile]
theorem nums_size (s : ByteArray) : s.size = (nums s).length := (nums_length s).symm
theorem nums_extractM (s : ByteArray) (a b : Nat) : nums (s.extract a b) = ((nums s).drop a).take (b - a) := by
  unfold nums
  rw [ByteArray.data_extract, Array.toList_extract, List.extract_eq_take_drop, List.map_take, List.map_drop]
theorem extract_nums (s : ByteArray) (a b : Nat) : s.extract a b = strOfNums (((nums s).drop a).take (b - a)) := by
  rw [← nums_extractM, strOfNums_nums]
theorem nums_extract_span (P : Int → Bool) (s : ByteArray) (k : Nat) : nums (s.extract k (k + spanN P s k)) = ((nums s).drop k).takeWhile P := by
  rw [nums_extractM, Nat.add_sub_cancel_left]
  unfold spanN
  rw [take_takeWhile]
theorem extract_span (P : Int → Bool) (s : ByteArray) (k : Nat) : s.extract k (k + spanN P s k) = strOfNums (((nums s).drop k).takeWhile P) := by
  rw [extract_nums, Nat.add_sub_cancel_left]
  unfold spanN
  rw [take_takeWhile]
theorem quoA_nil (acc : List Int) : quoA acc [] = none := rfl
theorem quoA_quote (acc l : List Int) : quoA acc (34 :: l) = some (acc, l) := by cases l <;> rfl
theorem quoA_esc {d : Int} (h : isEsc d = true) (acc l : List Int) : quoA acc (92 :: d :: l) = quoA (acc ++ [d]) l := by
  rw [quoA, if_neg (by decide), if_pos rfl, if_pos h]
theorem quoA_esc_no {d : Int} (h : isEsc d = false) (acc l : List Int) : quoA acc (92 :: d :: l) = none := by
  rw [quoA, if_neg (by decide), if_pos rfl, if_neg (by rw [h]; decide)]
theorem quoA_esc_end (acc : List Int) : quoA acc [92] = none := rfl
theorem isQt_ne {c : Int} (h : isQt c = true) : c ≠ 34 ∧ c ≠ 92 := by
  have := of_decide_eq_true h
  omega
theorem quoA_in {c : Int} (h : isQt c = true) (acc l : List Int) : quoA acc (c :: l) = quoA (acc ++ [c]) l := by
  obtain ⟨h1, h2⟩ := isQt_ne h
  cases l with
  | nil => rw [quoA_nil]; exact if_neg h1
  | cons d r => rw [quoA, if_neg h1, if_neg h2, if_pos h]
theorem quoA_out {c : Int} (h : isQt c = false) (h1 : c ≠ 34) (h2 : c ≠ 92) (acc l : List Int) : quoA acc (c :: l) = none := by
  cases l with
  | nil => exact if_neg h1
  | cons d r => rw [quoA, if_neg h1, if_neg h2, if_neg (by rw [h]; decide)]
def quoS (R : Option (List Int × List Int)) : ByteArray := match R with | none => ⟨#[]⟩ | some (v, _) => strOfNums v
def quoE (s : ByteArray) (R : Option (List Int × List Int)) : Nat := match R with | none => 0 | some (_, r) => s.size - r.length
theorem quoE_drop (s : ByteArray) (v : List Int) (k : Nat) (h : k ≤ s.size) : quoE s (some (v, (nums s).drop k)) = k := by
  unfold quoE
  simp only [List.length_drop, nums_length]
  omega
theorem dropWhile_len {α : Type} (P : α → Bool) (l : List α) : (l.dropWhile P).length ≤ l.length := by
  rw [← drop_takeWhile, List.length_drop]
  omega
theorem quoA_len : ∀ (n : Nat) (acc l v u : List Int), l.length ≤ n → quoA acc l = some (v, u) → u.length ≤ l.length
  | _, acc, [], v, u, _, h => by rw [quoA_nil] at h; cases h
  | 0, acc, c :: r, v, u, hn, _ => by simp at hn
  | n + 1, acc, c :: r, v, u, hn, h => by
    simp only [List.length_cons] at hn ⊢
    by_cases e1 : c = 34
    · subst e1
      rw [quoA_quote] at h
      cases h
      omega
    · by_cases e2 : c = 92
      · subst e2
        cases r with
        | nil => cases h
        | cons d r =>
          simp only [List.length_cons] at hn ⊢
          cases he : isEsc d with
          | false => rw [quoA_esc_no he] at h; cases h
          | true =>
            rw [quoA_esc he] at h
            have := quoA_len n _ r v u (by omega) h
            omega
      · cases hi : isQt c with
        | false => rw [quoA_out hi e1 e2] at h; cases h
        | true =>
          rw [quoA_in hi] at h
          have := quoA_len n _ r v u (by omega) h
          omega
theorem valN_len {l v u : List Int} (h : valN l = some (v, u)) : u.length ≤ l.length := by
  cases l with
  | nil => cases h
  | cons c r =>
    unfold valN at h
    simp only at h
    split at h
    · have := quoA_len _ _ _ _ _ (Nat.le_refl _) h
      simp only [List.length_cons]
      omega
    · split at h
      · injection h with h
        injection h with h1 h2
        rw [← h2]
        exact dropWhile_len _ _
      · cases h
theorem parN_len {l u : List Int} {p : List Int × List Int} (h : parN l = some (p, u)) : u.length < l.length := by
  unfold parN at h
  split at h
  · cases h
  · cases h
  · rename_i a as g t h1 h2
    split at h
    · cases h
    · have h3 := drop_takeWhile isTok l
      rw [h1, h2] at h3
      have h4 := congrArg List.length h3
      simp only [List.length_drop, List.length_cons] at h4
      cases hv : valN t with
      | none => rw [hv] at h; cases h
      | some vu =>
        obtain ⟨v, u'⟩ := vu
        rw [hv] at h
        have h5 := valN_len hv
        simp only [Option.map_some, Option.some.injEq, Prod.mk.injEq] at h
        rw [← h.2]
        omega
theorem parA_fuel : ∀ (f g : Nat) (acc : List (List Int × List Int)) (l : List Int), l.length < f → l.length < g → parA f acc l = parA g acc l
  | 0, _, _, _, h, _ => by omega
  | _ + 1, 0, _, _, _, h => by omega
  | f + 1, g + 1, acc, [], _, _ => rfl
  | f + 1, g + 1, acc, c :: r, hf, hg => by
    simp only [List.length_cons] at hf hg
    unfold parA
    split
    · rfl
    · have hd := dropWhile_len isBl r
      split
      · rfl
      · rename_i d q hq
        rw [hq] at hd
        split
        · exact parA_fuel f g acc (d :: q) (by omega) (by omega)
        · split
          · rfl
          · rename_i p u hp
            have h1 := parN_len hp
            have h2 := dropWhile_len isBl u
            exact parA_fuel f g _ _ (by omega) (by omega)
/-- parameters, with fuel enough. -/
def parW (acc : List (List Int × List Int)) (l : List Int) : Option (List (List Int × List Int)) := parA (l.length + 1) acc l
theorem parW_nil (acc : List (List Int × List Int)) : parW acc [] = some acc := rfl
theorem parW_no {c : Int} (h : c ≠ 59) (acc : List (List Int × List Int)) (r : List Int) : parW acc (c :: r) = none := by
  unfold parW parA
  rw [if_pos h]
theorem parW_end (acc : List (List Int × List Int)) (r : List Int) (h : r.dropWhile isBl = []) : parW acc (59 :: r) = some acc := by
  unfold parW parA
  rw [if_neg (by decide), h]
theorem parW_semi (acc : List (List Int × List Int)) (r q : List Int) (h : r.dropWhile isBl = 59 :: q) : parW acc (59 :: r) = parW acc (59 :: q) := by
  have hd := dropWhile_len isBl r
  rw [h] at hd
  show parA (r.length + 1 + 1) acc (59 :: r) = _
  rw [parA, if_neg (by decide), h]
  simp only [if_true]
  exact parA_fuel _ _ _ _ (by omega) (by omega)
theorem parW_bad (acc : List (List Int × List Int)) (r q : List Int) (d : Int) (h : r.dropWhile isBl = d :: q) (hd : d ≠ 59) (hp : parN (d :: q) = none) : parW acc (59 :: r) = none := by
  show parA (r.length + 1 + 1) acc (59 :: r) = _
  rw [parA, if_neg (by decide), h]
  simp only
  rw [if_neg hd, hp]
theorem parW_par (acc : List (List Int × List Int)) (r q u : List Int) (d : Int) (p : List Int × List Int) (h : r.dropWhile isBl = d :: q) (hd : d ≠ 59) (hp : parN (d :: q) = some (p, u)) :
    parW acc (59 :: r) = parW (acc ++ [p]) (u.dropWhile isBl) := by
  have hl := dropWhile_len isBl r
  rw [h] at hl
  have h1 := parN_len hp
  have h2 := dropWhile_len isBl u
  show parA (r.length + 1 + 1) acc (59 :: r) = _
  rw [parA, if_neg (by decide), h]
  simp only
  rw [if_neg hd, hp]
  exact parA_fuel _ _ _ _ (by omega) (by omega)
theorem parN_no {l : List Int} (h : l.takeWhile isTok = []) : parN l = none := by unfold parN; rw [h]
theorem parN_end {l : List Int} (h : l.dropWhile isTok = []) : parN l = none := by
  unfold parN
  rw [h]
  cases l.takeWhile isTok <;> rfl
theorem parN_other {l t : List Int} {g : Int} (h : l.dropWhile isTok = g :: t) (hg : g ≠ 61) : parN l = none := by
  unfold parN
  rw [h]
  cases l.takeWhile isTok with
  | nil => rfl
  | cons a as => exact if_pos hg
theorem parN_eq {l t : List Int} (h0 : l.takeWhile isTok ≠ []) (h : l.dropWhile isTok = 61 :: t) : parN l = (valN t).map fun vu => ((lowL (l.takeWhile isTok), vu.1), vu.2) := by
  unfold parN
  rw [h]
  cases hl : l.takeWhile isTok with
  | nil => exact absurd hl h0
  | cons a as => exact if_neg (by decide)
theorem valN_quote (r : List Int) : valN (34 :: r) = quoA [] r := rfl
theorem valN_tok {l : List Int} (h : l.head? ≠ some 34) : valN l = if l.takeWhile isTok = [] then none else some (l.takeWhile isTok, l.dropWhile isTok) := by
  cases l with
  | nil => rfl
  | cons c r =>
    have hc : c ≠ 34 := fun e => h (by rw [e]; rfl)
    unfold valN
    simp only
    rw [if_neg hc]
    cases hb : isTok c with
    | true => rw [if_pos rfl, if_neg (by rw [List.takeWhile_cons, hb]; simp)]
    | false => rw [List.takeWhile_cons, hb]; rfl
theorem span_zero {P : Int → Bool} {s : ByteArray} {k : Nat} : spanN P s k = 0 ↔ ((nums s).drop k).takeWhile P = [] := by
  unfold spanN
  exact List.length_eq_zero_iff
end Go.Proofs.Ytjemlaiciacnpaa
