/-
  UTF-8 in plain terms: right texts stand in the order of their scalars. No program in sight.
-/
import Derived.Test.YtkkipogldcbokaaU8N
import Derived.Laws.Strings
namespace Go.Proofs.Ytkkipogldcbokaa
def ltN : List Int → List Int → Bool
  | _, [] => false
  | [], _ :: _ => true
  | a :: x, b :: y => decide (a < b) || (a == b && ltN x y)
theorem ltN_pre (p l m : List Int) : ltN (p ++ l) (p ++ m) = ltN l m := by
  induction p with
  | nil => rfl
  | cons a p ih =>
    rw [List.cons_append, List.cons_append, ltN, ih]
    simp
theorem ltN_diff {u v : Int} (t t' : List Int) (h : u < v) : ltN (u :: t) (v :: t') = true ∧ ltN (v :: t') (u :: t) = false := by
  constructor
  · rw [ltN, decide_eq_true h]; rfl
  · rw [ltN, decide_eq_false (by omega)]
    have : (v == u) = false := by simp; omega
    rw [this]; rfl
/-- the first byte in which two scalars' texts part. -/
theorem encN_part (x y : Int) (hx : isSc x = true) (hy : isSc y = true) (h : x < y) : ∃ p u v t t', encN x = p ++ u :: t ∧ encN y = p ++ v :: t' ∧ u < v := by
  have h1 := (isSc_iff x).1 hx
  have h2 := (isSc_iff y).1 hy
  by_cases y0 : y < 128
  · exact ⟨[], x, y, [], [], encN_a (by omega) (by omega), encN_a (by omega) y0, h⟩
  · by_cases y1 : y < 2048
    · rw [encN_b (r := y) (by omega) y1]
      by_cases x0 : x < 128
      · exact ⟨[], _, _, _, _, encN_a (by omega) x0, rfl, by omega⟩
      · rw [encN_b (by omega) (by omega)]
        by_cases e : x / 64 < y / 64
        · exact ⟨[], _, _, _, _, rfl, rfl, by omega⟩
        · exact ⟨[192 + x / 64], _, _, _, _, rfl, by rw [show y / 64 = x / 64 by omega]; rfl, by omega⟩
    · by_cases y2 : y < 65536
      · rw [encN_c (r := y) (by omega) y2 (by omega)]
        by_cases x0 : x < 128
        · exact ⟨[], _, _, _, _, encN_a (by omega) x0, rfl, by omega⟩
        · by_cases x1 : x < 2048
          · exact ⟨[], _, _, _, _, encN_b (by omega) x1, rfl, by omega⟩
          · rw [encN_c (by omega) (by omega) (by omega)]
            by_cases e : x / 64 / 64 < y / 64 / 64
            · exact ⟨[], _, _, _, _, rfl, rfl, by omega⟩
            · by_cases e2 : x / 64 < y / 64
              · exact ⟨[224 + x / 64 / 64], _, _, _, _, rfl, by rw [show y / 64 / 64 = x / 64 / 64 by omega]; rfl, by omega⟩
              · exact ⟨[224 + x / 64 / 64, 128 + x / 64 % 64], _, _, _, _, rfl, by rw [show y / 64 / 64 = x / 64 / 64 by omega, show y / 64 % 64 = x / 64 % 64 by omega]; rfl, by omega⟩
      · rw [encN_d (r := y) (by omega) (by omega)]
        by_cases x0 : x < 128
        · exact ⟨[], _, _, _, _, encN_a (by omega) x0, rfl, by omega⟩
        · by_cases x1 : x < 2048
          · exact ⟨[], _, _, _, _, encN_b (by omega) x1, rfl, by omega⟩
          · by_cases x2 : x < 65536
            · exact ⟨[], _, _, _, _, encN_c (by omega) x2 (by omega), rfl, by omega⟩
            · rw [encN_d (by omega) (by omega)]
              by_cases e : x / 64 / 64 / 64 < y / 64 / 64 / 64
              · exact ⟨[], _, _, _, _, rfl, rfl, by omega⟩
              · by_cases e2 : x / 64 / 64 < y / 64 / 64
                · exact ⟨[240 + x / 64 / 64 / 64], _, _, _, _, rfl, by rw [show y / 64 / 64 / 64 = x / 64 / 64 / 64 by omega]; rfl, by omega⟩
                · by_cases e3 : x / 64 < y / 64
                  · exact ⟨[240 + x / 64 / 64 / 64, 128 + x / 64 / 64 % 64], _, _, _, _, rfl, by rw [show y / 64 / 64 / 64 = x / 64 / 64 / 64 by omega, show y / 64 / 64 % 64 = x / 64 / 64 % 64 by omega]; rfl, by omega⟩
                  · exact ⟨[240 + x / 64 / 64 / 64, 128 + x / 64 / 64 % 64, 128 + x / 64 % 64], _, _, _, _, rfl, by rw [show y / 64 / 64 / 64 = x / 64 / 64 / 64 by omega, show y / 64 / 64 % 64 = x / 64 / 64 % 64 by omega, show y / 64 % 64 = x / 64 % 64 by omega]; rfl, by omega⟩
theorem encN_lt (x y : Int) (hx : isSc x = true) (hy : isSc y = true) (h : x < y) (R R' : List Int) : ltN (encN x ++ R) (encN y ++ R') = true ∧ ltN (encN y ++ R') (encN x ++ R) = false := by
  obtain ⟨p, u, v, t, t', e1, e2, huv⟩ := encN_part x y hx hy h
  rw [e1, e2]
  simp only [List.append_assoc, List.cons_append]
  rw [ltN_pre, ltN_pre]
  exact ltN_diff _ _ huv
theorem encAll_append (a b : List Int) : encAll (a ++ b) = encAll a ++ encAll b := by simp [encAll]
/-- two rows that part at x and y. -/
theorem ltN_part (p a b : List Int) (x y : Int) (hx : isSc x = true) (hy : isSc y = true) (h : x ≠ y) : ltN (encAll (p ++ x :: a)) (encAll (p ++ y :: b)) = decide (x < y) := by
  rw [encAll_append, encAll_append, ltN_pre, encAll_cons, encAll_cons]
  by_cases h1 : x < y
  · rw [(encN_lt x y hx hy h1 _ _).1, decide_eq_true h1]
  · rw [(encN_lt y x hy hx (by omega) _ _).2, decide_eq_false h1]
theorem ltN_nil (l : List Int) : ltN l [] = false := by cases l <;> rfl
theorem ltN_end (p b : List Int) (x : Int) (hx : isSc x = true) : ltN (encAll p) (encAll (p ++ x :: b)) = true ∧ ltN (encAll (p ++ x :: b)) (encAll p) = false := by
  rw [encAll_append]
  have h1 := ltN_pre (encAll p) [] (encAll (x :: b))
  have h2 := ltN_pre (encAll p) (encAll (x :: b)) []
  rw [List.append_nil] at h1 h2
  rw [h1, h2, encAll_cons]
  constructor
  · cases h : encN x with
    | nil => exact absurd h (encN_ne hx)
    | cons u t => rfl
  · exact ltN_nil _
theorem ltN_same (l : List Int) : ltN l l = false := by
  have := ltN_pre l [] []
  rw [List.append_nil] at this
  exact this
theorem bytesLess_nums (s t : ByteArray) : Op.bytesLess s.toList t.toList = ltN (nums s) (nums t) := by
  rw [ByteArray.toList_eq, ByteArray.toList_eq]
  unfold nums
  generalize s.data.toList = a
  generalize t.data.toList = b
  induction a generalizing b with
  | nil => cases b <;> rfl
  | cons x a ih =>
    cases b with
    | nil => rfl
    | cons y b =>
      rw [List.map_cons, List.map_cons, Op.bytesLess, ltN, ih b]
      have h1 : (decide (x < y)) = decide ((x.toNat : Int) < (y.toNat : Int)) := by
        rw [Bool.eq_iff_iff]; simp [UInt8.lt_iff_toNat_lt]
      have h2 : (x == y) = ((x.toNat : Int) == (y.toNat : Int)) := by
        rw [Bool.eq_iff_iff]; simp [← UInt8.toNat_inj]; omega
      rw [h1, h2]
theorem textS_nums (xs : List Int) (h : scAll xs = true) : nums (textS xs) = encAll xs := by
  unfold textS; rw [if_pos h]; exact nums_strOfNums _ (isBs_encAll xs)
theorem textS_less (a b : List Int) (ha : scAll a = true) (hb : scAll b = true) : Op.bytesLess (textS a).toList (textS b).toList = ltN (encAll a) (encAll b) := by
  rw [bytesLess_nums, textS_nums a ha, textS_nums b hb]
theorem textS_eq (a b : List Int) (ha : scAll a = true) (hb : scAll b = true) : ((textS a).toList == (textS b).toList) = decide (a = b) := by
  rw [Bool.eq_iff_iff, beq_iff_eq, decide_eq_true_iff]
  constructor
  · intro h
    rw [ByteArray.toList_eq, ByteArray.toList_eq] at h
    have h2 : nums (textS a) = nums (textS b) := by unfold nums; rw [h]
    rw [textS_nums a ha, textS_nums b hb] at h2
    have h3 := scalL_encAll a ha
    rw [h2, scalL_encAll b hb] at h3
    exact h3.symm
  · intro h; rw [h]
end Go.Proofs.Ytkkipogldcbokaa
