/-
  The walks of utf8 that loop over no text: Is, Len, Put, follow, piece, Next, and the reference's.
-/
import Derived.Test.YtjemlaiciacnpaaBase
import Derived.Test.YtjemlaiciacnpaaU8P
namespace Go.Proofs.Ytjemlaiciacnpaa
open Go.RowKit
attribute [local go_sem] i64_and63 i64_and31 i64_and15 i64_and7
theorem isSc_bd {r : Int} (h : isSc r = true) : 0 ≤ r ∧ r < 1114112 := by unfold isSc at h; have := of_decide_eq_true h; omega
end Go.Proofs.Ytjemlaiciacnpaa
