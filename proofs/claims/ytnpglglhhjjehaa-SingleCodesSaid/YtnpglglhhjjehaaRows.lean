/-
  No cell of these rows narrows 'for every input' (looked for: loops, veiled, ifaces, maps, wideKeys, modest, calm, conditions, laid).
  DERIVED. THE GIVEN ROWS OF THIS SEAT. 4 by the template 'for every input the law returns true; each argument reads behind the call as it read before'; 0 by the template 'total and deterministic' (their statements: YtnpglglhhjjehaaTotals.lean).
  GIVEN WITH THE SEED: the statements are not yours to turn. If you find one false, say at which input.
  Laid BY PROGRAM, IN A SANDBOX (cutbox-rows.mjs): the forced cells as the released guide's own fill.sh prints them over the translation ee34fb59c9b037a3… (all of the seat's roots in one cut). By AI agents, Wed Nov 11 2026. No macro, syntax, notation, axiom, sorry.
-/
import Derived.Test.YtnpglglhhjjehaaChecked
import GoSem.Claim
import GoSem.ClaimJoined
import GoSem.ClaimMapViews
import Derived.JoinedTies
import Derived.KernelRfl
namespace Go.Proofs.Ytnpglglhhjjehaa
/- THE CELL 'sum', in the pinned program and in every row, IS THE sha256 OF THE DUMP (.gsa) THAT YtnpglglhhjjehaaProg.lean LOADS. Nothing in Lean hashes anything: it is a label: what it is worth is what the hold of that sum in a sandbox is worth. -/
noncomputable def Try.pinned : Pinned := { name := "ytnpglglhhjjehaa", sum := "ee34fb59c9b037a338f86dfdedc7903e02d2b64072cde60ad881b6900337a26c", checked := Try.checked }
namespace Rows
def none {H : Type} : Left H := { results := [], args := [] }

/-- 'cardinglaw04.SingleTells': WHATEVER THE INPUT: true; the input reads as it did. -/
def singleTellsSpec : ChangeSpec := { name := "singleTells", fn := fun _ => fun
  | [d1, d2, d3] => { results := [.lit (.bool true)], args := [d1, d2, d3] }
  | _ => none }
def singleTellsRow : OpenClaim := { program := "ytnpglglhhjjehaa", sum := "ee34fb59c9b037a338f86dfdedc7903e02d2b64072cde60ad881b6900337a26c", func := "carding/cardinglaw04.SingleTells", spec := "singleTells", unfollowed := true, recurses := true, apart := false }
def SingleTellsSaid : Prop := singleTellsRow.holds Try.pinned (OpenSpec.ofChange singleTellsSpec)

/-- ITS FALSE NEIGHBOUR: 'it returns false'. Refute it at one input. -/
def singleTellsWrong : ChangeSpec := { name := "singleTells", fn := fun _ => fun
  | [d1, d2, d3] => { results := [.lit (.bool false)], args := [d1, d2, d3] }
  | _ => none }
def SingleTellsWrongFalsely : Prop := singleTellsRow.holds Try.pinned (OpenSpec.ofChange singleTellsWrong)

/-- 'cardinglaw04.SingleOnce': WHATEVER THE INPUT: true; the input reads as it did. -/
def singleOnceSpec : ChangeSpec := { name := "singleOnce", fn := fun _ => fun
  | [d1, d2, d3] => { results := [.lit (.bool true)], args := [d1, d2, d3] }
  | _ => none }
def singleOnceRow : OpenClaim := { program := "ytnpglglhhjjehaa", sum := "ee34fb59c9b037a338f86dfdedc7903e02d2b64072cde60ad881b6900337a26c", func := "carding/cardinglaw04.SingleOnce", spec := "singleOnce", unfollowed := true, recurses := true, apart := false }
def SingleOnceSaid : Prop := singleOnceRow.holds Try.pinned (OpenSpec.ofChange singleOnceSpec)

/-- ITS FALSE NEIGHBOUR: 'it returns false'. Refute it at one input. -/
def singleOnceWrong : ChangeSpec := { name := "singleOnce", fn := fun _ => fun
  | [d1, d2, d3] => { results := [.lit (.bool false)], args := [d1, d2, d3] }
  | _ => none }
def SingleOnceWrongFalsely : Prop := singleOnceRow.holds Try.pinned (OpenSpec.ofChange singleOnceWrong)

/-- 'cardinglaw04.SingleCodes': WHATEVER THE INPUT: true; the input reads as it did. -/
def singleCodesSpec : ChangeSpec := { name := "singleCodes", fn := fun _ => fun
  | [d1, d2, d3] => { results := [.lit (.bool true)], args := [d1, d2, d3] }
  | _ => none }
def singleCodesRow : OpenClaim := { program := "ytnpglglhhjjehaa", sum := "ee34fb59c9b037a338f86dfdedc7903e02d2b64072cde60ad881b6900337a26c", func := "carding/cardinglaw04.SingleCodes", spec := "singleCodes", unfollowed := true, recurses := true, apart := false }
def SingleCodesSaid : Prop := singleCodesRow.holds Try.pinned (OpenSpec.ofChange singleCodesSpec)

/-- ITS FALSE NEIGHBOUR: 'it returns false'. Refute it at one input. -/
def singleCodesWrong : ChangeSpec := { name := "singleCodes", fn := fun _ => fun
  | [d1, d2, d3] => { results := [.lit (.bool false)], args := [d1, d2, d3] }
  | _ => none }
def SingleCodesWrongFalsely : Prop := singleCodesRow.holds Try.pinned (OpenSpec.ofChange singleCodesWrong)

/-- 'cardinglaw04.SingleBack': WHATEVER THE INPUT: true; the input reads as it did. -/
def singleBackSpec : ChangeSpec := { name := "singleBack", fn := fun _ => fun
  | [d] => { results := [.lit (.bool true)], args := [d] }
  | _ => none }
def singleBackRow : OpenClaim := { program := "ytnpglglhhjjehaa", sum := "ee34fb59c9b037a338f86dfdedc7903e02d2b64072cde60ad881b6900337a26c", func := "carding/cardinglaw04.SingleBack", spec := "singleBack", unfollowed := true, recurses := true, apart := false }
def SingleBackSaid : Prop := singleBackRow.holds Try.pinned (OpenSpec.ofChange singleBackSpec)

/-- ITS FALSE NEIGHBOUR: 'it returns false'. Refute it at one input. -/
def singleBackWrong : ChangeSpec := { name := "singleBack", fn := fun _ => fun
  | [d] => { results := [.lit (.bool false)], args := [d] }
  | _ => none }
def SingleBackWrongFalsely : Prop := singleBackRow.holds Try.pinned (OpenSpec.ofChange singleBackWrong)

/- THE SECOND FORM. 'bulk': how many values and letters a reading holds, each counted each time it is reached (what is shared counts as often as it is met; a slice's spare places count too). A statement '..UptoSaid' is the law's where the arguments, and the package variables that the reading takes, are together of bulk at most 1048576: NARROWER than '..Said'. Prove '..Said' where nothing that the law and all that it calls make is longer than what came in: it says more and counts as full. Else prove '..UptoSaid'. A law counts once. -/
mutual
def uptoBulk {H : Type} : DataW H → Nat
  | .lit (.string bytes) => bytes.length + 1
  | .lit _ => 1
  | .nil => 1
  | .ptr d => uptoBulk d + 1
  | .slice elems spare => uptoBulkAll elems + uptoBulkAll spare + 1
  | .agg parts => uptoBulkAll parts + 1
  | .iface _ d => uptoBulk d + 1
  | .map entries => uptoBulkEntries entries + 1
  | .held _ => 1
def uptoBulkAll {H : Type} : List (DataW H) → Nat
  | [] => 0
  | d :: r => uptoBulk d + uptoBulkAll r
def uptoBulkEntries {H : Type} : List (Lit × DataW H) → Nat
  | [] => 0
  | x :: r => uptoBulkEntry x + uptoBulkEntries r
def uptoBulkEntry {H : Type} : Lit × DataW H → Nat
  | (.string bytes, d) => bytes.length + uptoBulk d + 1
  | (_, d) => uptoBulk d + 1
 end
def uptoSmall : (H : Type) → List (DataW H) → Bool := fun _ ds => decide (uptoBulkAll ds ≤ 1048576)
def OpenSpec.upto (s : _root_.Go.ChangeSpec) : _root_.Go.OpenSpec := { _root_.Go.OpenSpec.ofChange s with cond := some uptoSmall }

/-- 'cardinglaw04.SingleTells', WHERE WHAT IT READS IS OF BULK AT MOST 1048576: true; the input reads as it did. -/
def singleTellsUptoRow : OpenClaim := { program := "ytnpglglhhjjehaa", sum := "ee34fb59c9b037a338f86dfdedc7903e02d2b64072cde60ad881b6900337a26c", func := "carding/cardinglaw04.SingleTells", spec := "singleTells", unfollowed := true, recurses := true, apart := false, narrowed := true }
def SingleTellsUptoSaid : Prop := singleTellsUptoRow.holds Try.pinned (OpenSpec.upto singleTellsSpec)

/-- 'cardinglaw04.SingleOnce', WHERE WHAT IT READS IS OF BULK AT MOST 1048576: true; the input reads as it did. -/
def singleOnceUptoRow : OpenClaim := { program := "ytnpglglhhjjehaa", sum := "ee34fb59c9b037a338f86dfdedc7903e02d2b64072cde60ad881b6900337a26c", func := "carding/cardinglaw04.SingleOnce", spec := "singleOnce", unfollowed := true, recurses := true, apart := false, narrowed := true }
def SingleOnceUptoSaid : Prop := singleOnceUptoRow.holds Try.pinned (OpenSpec.upto singleOnceSpec)

/-- 'cardinglaw04.SingleCodes', WHERE WHAT IT READS IS OF BULK AT MOST 1048576: true; the input reads as it did. -/
def singleCodesUptoRow : OpenClaim := { program := "ytnpglglhhjjehaa", sum := "ee34fb59c9b037a338f86dfdedc7903e02d2b64072cde60ad881b6900337a26c", func := "carding/cardinglaw04.SingleCodes", spec := "singleCodes", unfollowed := true, recurses := true, apart := false, narrowed := true }
def SingleCodesUptoSaid : Prop := singleCodesUptoRow.holds Try.pinned (OpenSpec.upto singleCodesSpec)

/-- 'cardinglaw04.SingleBack', WHERE WHAT IT READS IS OF BULK AT MOST 1048576: true; the input reads as it did. -/
def singleBackUptoRow : OpenClaim := { program := "ytnpglglhhjjehaa", sum := "ee34fb59c9b037a338f86dfdedc7903e02d2b64072cde60ad881b6900337a26c", func := "carding/cardinglaw04.SingleBack", spec := "singleBack", unfollowed := true, recurses := true, apart := false, narrowed := true }
def SingleBackUptoSaid : Prop := singleBackUptoRow.holds Try.pinned (OpenSpec.upto singleBackSpec)

end Rows
end Go.Proofs.Ytnpglglhhjjehaa
