/-
  Bytes as numbers; the library's index of a text, step by step. No program in sight.
-/
import Derived.Test.YtjemlaiciacnpaaU8P
import Derived.Lib.CutLaws
namespace Go.Proofs.Ytjemlaiciacnpaa
open Go.Lib
theorem index_cons (c : UInt8) (t sub : List UInt8) (hn : sub.isPrefixOf (c :: t) = false) : Lib.index (c :: t) sub = if Lib.index t sub = -1 then -1 else Lib.index t sub + 1 := by
  rw [Lib.index, hn]
  simp
theorem index_pre (s sub : List UInt8) (h : sub.isPrefixOf s = true) : Lib.index s sub = 0 := Lib.index_first (i := 0) (Nat.zero_le _) (by simpa [Lib.occAt] using h) (fun _ h => absurd h (Nat.not_lt_zero _))
/-- bytes as numbers. -/
def numsL (l : List UInt8) : List Int := l.map fun c => (c.toNat : Int)
theorem numsL_of (s : ByteArray) : numsL s.data.toList = nums s := rfl
theorem numsL_mk (l : List UInt8) : nums ⟨l.toArray⟩ = numsL l := by unfold nums numsL; simp
theorem u8_eq (c : UInt8) (n : Nat) (hn : n < 256) : (c.toNat : Int) = (n : Int) ↔ c = UInt8.ofNat n := by
  constructor
  · intro h
    apply UInt8.toNat_inj.1
    rw [UInt8.toNat_ofNat']
    omega
  · intro h
    rw [h, UInt8.toNat_ofNat']
    omega
end Go.Proofs.Ytjemlaiciacnpaa
