/-
  The walks of utf8: follow, piece, Next, and the reference's lead, part, Next: what stands at a byte.
-/
import Derived.Test.YtjemlaiciacnpaaU8B
namespace Go.Proofs.Ytjemlaiciacnpaa
open Go.RowKit
attribute [local go_sem] i64_and63 i64_and31 i64_and15 i64_and7
theorem index_str (s : ByteArray) (k : Nat) (h : k < s.size) (d i : Int) (hd : (s[k].toNat : Int) = d) (hi : i = k) (w : World) :
    (Instr.index 9 (.string s) (.int .i64 i)).run Try.prog w = .ok (.int .u8 d) w := by
  subst hi
  rw [run_index_string w _ _ _ _ Try.underlying9]
  simp [h, hd]
def nextR (s : ByteArray) (k : Int) : Int × Nat := if k < 0 ∨ (s.size : Int) ≤ k then (-1, 0) else if (piece ((nums s).drop k.toNat)).1 < 0 then (-1, 0) else piece ((nums s).drop k.toNat)
def pR (p : Int × Nat) : Int := if p.1 < 0 then 0 else p.1
def pOk (p : Int × Nat) : Bool := decide (0 ≤ p.1)
theorem pR_of {p : Int × Nat} (h : 0 ≤ p.1) : pR p = p.1 := if_neg (by omega)
theorem pOk_of {p : Int × Nat} (h : 0 ≤ p.1) : pOk p = true := decide_eq_true h
end Go.Proofs.Ytjemlaiciacnpaa
