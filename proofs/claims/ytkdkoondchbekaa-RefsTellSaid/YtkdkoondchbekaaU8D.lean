/-
  The walks of the reference's Next, Scalars, Valid, Text, Loose.
-/
import Derived.Test.YtkdkoondchbekaaU8C
import Derived.Test.YtkdkoondchbekaaU8M
import Derived.Test.YtkdkoondchbekaaSl
namespace Go.Proofs.Ytkdkoondchbekaa
open Go.RowKit
attribute [local go_sem] i64_and63 i64_and31 i64_and15 i64_and7
theorem nextR_in {s : ByteArray} {i : Nat} (hi : i < s.size) (hp : 0 ≤ (piece ((nums s).drop i)).1) : nextR s i = piece ((nums s).drop i) := by
  unfold nextR; rw [if_neg (by omega), Int.toNat_natCast, if_neg (by omega)]
theorem nextR_wrong {s : ByteArray} {i : Nat} (hi : i < s.size) (hp : (piece ((nums s).drop i)).1 < 0) : nextR s i = (-1, 0) := by
  unfold nextR; rw [if_neg (by omega), Int.toNat_natCast, if_pos hp]
theorem pR_no {p : Int × Nat} (h : p.1 < 0) : pR p = 0 := if_pos h
theorem pOk_no {p : Int × Nat} (h : p.1 < 0) : pOk p = false := decide_eq_false (by omega)
theorem drop_ne {s : ByteArray} {k : Nat} (h : k < s.size) : (nums s).drop k ≠ [] := by rw [nums_drop s k h]; simp
theorem piece_drop_le {s : ByteArray} {k : Nat} (h : k < s.size) : 1 ≤ (piece ((nums s).drop k)).2 ∧ k + (piece ((nums s).drop k)).2 ≤ s.size := by
  have hd := nums_drop s k h
  have hn := piece_n (s[k].toNat : Int) ((nums s).drop (k + 1))
  rw [← hd] at hn
  have hl := nums_length s
  rw [List.length_drop] at hn
  omega
theorem pieces_drop {s : ByteArray} {k : Nat} (h : k < s.size) : pieces ((nums s).drop k) = piece ((nums s).drop k) :: pieces ((nums s).drop (k + (piece ((nums s).drop k)).2)) := by
  rw [pieces_ne _ (drop_ne h), List.drop_drop]
theorem pieces_drop_end {s : ByteArray} {k : Nat} (h : s.size ≤ k) : pieces ((nums s).drop k) = [] := by rw [nums_drop_end s k h]; rfl
theorem take_snoc {α : Type} (l : List α) (k : Nat) (h : k < l.length) : l.take (k + 1) = l.take k ++ [l[k]] := by
  rw [List.take_succ_eq_append_getElem h]
theorem scAll_snoc (l : List Int) (x : Int) : scAll (l ++ [x]) = (scAll l && isSc x) := by simp [scAll]
theorem encAll_snoc (l : List Int) (x : Int) : encAll (l ++ [x]) = encAll l ++ encN x := by simp [encAll]
theorem scAll_take {l : List Int} {k : Nat} (h : k < l.length) (hx : isSc l[k] = false) : scAll l = false := by
  unfold scAll
  rw [List.all_eq_false]
  exact ⟨l[k], List.getElem_mem h, by simp [hx]⟩
theorem textS_yes {l : List Int} (h : scAll l = true) : textS l = strOfNums (encAll l) := if_pos h
theorem textS_no {l : List Int} (h : scAll l = false) : textS l = ⟨#[]⟩ := by unfold textS; rw [if_neg (by rw [h]; decide)]; rfl
theorem encS_nums (r : Int) : ((encS r).data.toList.map fun c => (c.toNat : Int)) = encN r := by
  refine nums_strOfNums (encN r) ?_
  unfold encN
  by_cases h : isSc r = true
  · have hb := isSc_bd h
    rw [if_neg (by rw [h]; decide)]
    (repeat' split) <;> (intro x hx; simp only [List.mem_cons, List.not_mem_nil, or_false] at hx; omega)
  · rw [if_pos (by simpa using h)]
    intro x hx
    cases hx
theorem encS_size (r : Int) : (encS r).size = (encN r).length := strOfNums_size _
/-- so far all are scalars, and their bytes are gathered. -/
def TextAt (xs : List Int) (w : World) (v i : Value) (wr : World) : Prop :=
  ∃ k : Nat, i = .int .i64 k ∧ k ≤ xs.length ∧ scAll (xs.take k) = true ∧ wr.ownsRow w.heap.size 5 1 v (encAll (xs.take k)).length ((encAll (xs.take k)).map (Value.int .u8)) ∧ Below w.heap.size w wr
theorem nums_extract (s : ByteArray) (a b : Nat) : ((s.extract a b).data.toList.map fun c => (c.toNat : Int)) = ((nums s).drop a).take (b - a) := by
  rw [ByteArray.data_extract, Array.toList_extract]
  unfold nums
  rw [List.extract_eq_take_drop, List.map_take, List.map_drop]
theorem firstP_lo : ∀ (a : Nat) (l : List (Int × Nat)), -1 ≤ firstP a l
  | _, [] => by simp [firstP]
  | a, p :: r => by
    rw [firstP]
    split
    · omega
    · exact firstP_lo _ r
theorem firstP_snoc (p : Int × Nat) : ∀ (a : Nat) (l : List (Int × Nat)), firstP a (l ++ [p]) = if firstP a l < 0 then (if p.1 < 0 then ((a + (l.map (·.2)).sum : Nat) : Int) else -1) else firstP a l
  | a, [] => by simp [firstP]
  | a, q :: r => by
    rw [List.cons_append, firstP, firstP]
    by_cases h : q.1 < 0
    · rw [if_pos h, if_pos h, if_neg (by omega)]
    · rw [if_neg h, if_neg h, firstP_snoc p (a + q.2) r]
      simp [Nat.add_assoc]
end Go.Proofs.Ytkdkoondchbekaa
