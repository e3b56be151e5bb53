/-
  A text's bytes: a row that a conversion made, read, written on, made a text again.
-/
import Derived.Test.YtjemlaiciacnpaaBase
import Derived.Test.YtjemlaiciacnpaaU8Q
import Derived.Lib.ConvBytes
import Derived.Lib.BufferMore
namespace Go.Proofs.Ytjemlaiciacnpaa
open Go.RowKit
/-- the block p holds a row whose first bytes are xs, and none of the row is frozen. -/
def LowRow (w : World) (p : Nat) (xs : List Int) : Prop := ∃ (C : Array Value) (e : TypeId) (m : Nat), w.heap[p]? = some (.cells C e (C.size, m)) ∧ C.toList.take xs.length = xs.map (Value.int .u8)
theorem LowRow.cellAt {w : World} {p : Nat} {xs : List Int} (h : LowRow w p xs) (j : Nat) (hj : j < xs.length) : w.cell? ⟨p, j, none⟩ = some (.int .u8 xs[j]) := by
  obtain ⟨C, e, m, hb, hC⟩ := h
  have h1 : (C.toList.take xs.length)[j]? = some (.int .u8 xs[j]) := by
    rw [hC, List.getElem?_map, List.getElem?_eq_getElem hj]
    rfl
  rw [List.getElem?_take_of_lt hj] at h1
  simpa [World.cell?, hb] using h1
theorem LowRow.frozenAt {w : World} {p : Nat} {xs : List Int} (h : LowRow w p xs) (j : Nat) (hj : j < xs.length) : w.frozen? ⟨p, j, none⟩ = false := by
  obtain ⟨C, e, m, hb, hC⟩ := h
  have h1 : xs.length ≤ C.size := by
    have := congrArg List.length hC
    simp only [List.length_take, Array.length_toList, List.length_map] at this
    omega
  have h2 : ¬ C.size ≤ j := by omega
  simp [World.frozen?, hb, h2]
theorem LowRow.stored {w : World} {p : Nat} {xs : List Int} (h : LowRow w p xs) (j : Nat) (x : Int) : LowRow (w.setCell ⟨p, j, none⟩ (.int .u8 x)) p (xs.set j x) := by
  obtain ⟨C, e, m, hb, hC⟩ := h
  refine ⟨C.setIfInBounds j (.int .u8 x), e, m, ?_, ?_⟩
  · rw [Lib.heap_setCell_same hb, Array.size_setIfInBounds]
  · rw [Array.toList_setIfInBounds, List.length_set, List.map_set, ← hC, List.take_set]
theorem LowRow.drewN {w : World} {p : Nat} {xs : List Int} (h : LowRow w p xs) (n : Nat) : LowRow (w.drewN n) p xs := h
theorem LowRow.made (w : World) (e : TypeId) (s : ByteArray) : LowRow (Lib.bytesWorld w e s) w.heap.size (nums s) := by
  refine ⟨_, e, _, Lib.bytesWorld_at_new w e s, ?_⟩
  have h : (nums s).map (Value.int .u8) = (s.data.map fun b => Value.int .u8 b.toNat).toList := by
    unfold nums
    rw [List.map_map, Array.toList_map]
    rfl
  have h2 : (s.data.map fun b => Value.int .u8 b.toNat).toList.length = (nums s).length := by rw [← h, List.length_map]
  rw [h, Lib.bytesCells, Array.toList_append, ← h2]
  exact List.take_left
theorem bytes_below (w : World) (e : TypeId) (s : ByteArray) : Below w.heap.size w (Lib.bytesWorld w e s) :=
  ⟨by simp [Lib.bytesWorld, World.freeze, World.alloc, World.drew, -World.alloc_eq, -World.drew_eq], by simp [Lib.bytesWorld, World.freeze, World.alloc, World.drew, -World.alloc_eq, -World.drew_eq],
    by simp [Lib.bytesWorld, World.freeze, World.alloc, World.drew, -World.alloc_eq, -World.drew_eq], by rw [Lib.bytesWorld_size]; omega, fun k hk => Lib.bytesWorld_at_old w e s k hk⟩
theorem LowRow.conv {w : World} {p : Nat} {xs : List Int} (h : LowRow w p xs) (n cap : Nat) (hn : xs.length = n) :
    (convert 52 9 (.slice (some ⟨p, 0, none⟩) n cap)).run Try.prog w = .ok (.string (strOfNums xs)) w := by
  refine run_convert_bytes_arg w 52 5 Try.underlying52 Try.underlying5 p 0 n cap xs hn ?_ 9 Try.underlying9
  intro i hi
  rw [Nat.zero_add, h.cellAt i (by omega)]
  simp [List.getD, List.getElem?_eq_getElem (show i < xs.length by omega)]
theorem nums_at (s : ByteArray) (k : Nat) (h : k < s.size) : (nums s)[k]'(by rw [nums_length]; exact h) = (s[k].toNat : Int) := by simp [nums]; rfl
theorem byte256 (s : ByteArray) (k : Nat) (h : k < s.size) : s[k].toNat < 256 := s[k].toBitVec.isLt
end Go.Proofs.Ytjemlaiciacnpaa
