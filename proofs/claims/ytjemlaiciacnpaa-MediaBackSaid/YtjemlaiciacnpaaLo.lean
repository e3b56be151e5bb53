/-
  Lower case in plain terms; a row of bytes that is lowered byte by byte.
-/
import Derived.Test.YtjemlaiciacnpaaU8Q
import Derived.WalkKit
namespace Go.Proofs.Ytjemlaiciacnpaa
def lowB (c : Int) : Int := if 65 ≤ c ∧ c ≤ 90 then c + 32 else c
def lowL (l : List Int) : List Int := l.map lowB
/-- the row of which k bytes are lowered. -/
def fillL (s : ByteArray) (k : Nat) : List Int := lowL ((nums s).take k) ++ (nums s).drop k
theorem fillL_len (s : ByteArray) (k : Nat) : (fillL s k).length = s.size := by
  unfold fillL lowL
  rw [List.length_append, List.length_map, List.length_take, List.length_drop, nums_length]
  omega
theorem fillL_zero (s : ByteArray) : fillL s 0 = nums s := by unfold fillL lowL; simp
theorem fillL_end (s : ByteArray) : fillL s s.size = lowL (nums s) := by
  unfold fillL
  rw [← nums_length s, List.take_length, List.drop_length, List.append_nil]
theorem nums_take (s : ByteArray) (k : Nat) (h : k < s.size) : (nums s).take (k + 1) = (nums s).take k ++ [(s[k].toNat : Int)] := by
  have h1 := nums_drop s k h
  rw [List.take_add_one]
  have h2 : (nums s)[k]? = some (s[k].toNat : Int) := by
    have := congrArg List.head? h1
    rw [List.head?_drop] at this
    exact this
  rw [h2]
  rfl
theorem fillL_at (s : ByteArray) (k : Nat) (h : k < s.size) : (fillL s k)[k]'(by rw [fillL_len]; exact h) = (s[k].toNat : Int) := by
  have hl : (lowL ((nums s).take k)).length = k := by unfold lowL; rw [List.length_map, List.length_take, nums_length]; omega
  have h3 : (fillL s k)[k]? = some (s[k].toNat : Int) := by
    unfold fillL
    rw [List.getElem?_append_right (by omega), hl, Nat.sub_self, nums_drop s k h]
    rfl
  rw [List.getElem?_eq_getElem (by rw [fillL_len]; exact h)] at h3
  exact Option.some.inj h3
theorem fillL_step (s : ByteArray) (k : Nat) (h : k < s.size) : fillL s (k + 1) = (fillL s k).set k (lowB (s[k].toNat : Int)) := by
  have hl : (lowL ((nums s).take k)).length = k := by unfold lowL; rw [List.length_map, List.length_take, nums_length]; omega
  unfold fillL
  rw [List.set_append_right _ _ (by omega), hl, Nat.sub_self, nums_drop s k h, nums_take s k h]
  unfold lowL
  rw [List.map_append, List.append_assoc]
  rfl
theorem or32 (c : Nat) (h0 : 65 ≤ c) (h1 : c ≤ 90) : bits .or .u8 (c : Int) 32 = (c : Int) + 32 := by
  have h := List.all_eq_true.1 (show ((List.range 256).all fun c => decide (65 ≤ c ∧ c ≤ 90 → bits .or .u8 (c : Int) 32 = (c : Int) + 32)) = true by decide +kernel) c (List.mem_range.2 (by omega))
  exact of_decide_eq_true h ⟨h0, h1⟩
end Go.Proofs.Ytjemlaiciacnpaa
