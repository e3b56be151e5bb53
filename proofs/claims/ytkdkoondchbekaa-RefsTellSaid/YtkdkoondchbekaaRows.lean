/-
  No cell of these rows narrows 'for every input' (looked for: loops, veiled, ifaces, maps, wideKeys, modest, calm, conditions, laid).
  DERIVED. THE GIVEN ROWS OF THIS SEAT. 6 by the template 'for every input the law returns true; each argument reads behind the call as it read before'; 0 by the template 'total and deterministic' (their statements: YtkdkoondchbekaaTotals.lean).
  GIVEN WITH THE SEED: the statements are not yours to turn. If you find one false, say at which input.
  Laid BY PROGRAM, IN A SANDBOX (cutbox-rows.mjs): the forced cells as the released guide's own fill.sh prints them over the translation ddaae5f1da36d56e… (all of the seat's roots in one cut). By AI agents, Wed Nov 11 2026. No macro, syntax, notation, axiom, sorry.
-/
import Derived.Test.YtkdkoondchbekaaChecked
import GoSem.Claim
import GoSem.ClaimJoined
import GoSem.ClaimMapViews
import Derived.JoinedTies
import Derived.KernelRfl
namespace Go.Proofs.Ytkdkoondchbekaa
/- THE CELL 'sum', in the pinned program and in every row, IS THE sha256 OF THE DUMP (.gsa) THAT YtkdkoondchbekaaProg.lean LOADS. Nothing in Lean hashes anything: it is a label: what it is worth is what the hold of that sum in a sandbox is worth. -/
noncomputable def Try.pinned : Pinned := { name := "ytkdkoondchbekaa", sum := "ddaae5f1da36d56ef971e5de60402e2d976826ff4c67be98b6d7bf604c63fd99", checked := Try.checked }
namespace Rows
def none {H : Type} : Left H := { results := [], args := [] }

/-- 'cardinglaw13.RefsTell': WHATEVER THE INPUT: true; the input reads as it did. -/
def refsTellSpec : ChangeSpec := { name := "refsTell", fn := fun _ => fun
  | [d1, d2, d3] => { results := [.lit (.bool true)], args := [d1, d2, d3] }
  | _ => none }
def refsTellRow : OpenClaim := { program := "ytkdkoondchbekaa", sum := "ddaae5f1da36d56ef971e5de60402e2d976826ff4c67be98b6d7bf604c63fd99", func := "carding/cardinglaw13.RefsTell", spec := "refsTell", inPlace := ["internal/bytealg.IndexByteString", "internal/abi.NoEscape", "internal/bytealg.IndexString", "internal/bytealg.CountString"], unfollowed := true, recurses := true, named := ["internal/bytealg.MaxLen"], apart := false }
def RefsTellSaid : Prop := refsTellRow.holds Try.pinned (OpenSpec.ofChange refsTellSpec)

/-- ITS FALSE NEIGHBOUR: 'it returns false'. Refute it at one input. -/
def refsTellWrong : ChangeSpec := { name := "refsTell", fn := fun _ => fun
  | [d1, d2, d3] => { results := [.lit (.bool false)], args := [d1, d2, d3] }
  | _ => none }
def RefsTellWrongFalsely : Prop := refsTellRow.holds Try.pinned (OpenSpec.ofChange refsTellWrong)

/-- 'cardinglaw13.RefsNames': WHATEVER THE INPUT: true; the input reads as it did. -/
def refsNamesSpec : ChangeSpec := { name := "refsNames", fn := fun _ => fun
  | [d] => { results := [.lit (.bool true)], args := [d] }
  | _ => none }
def refsNamesRow : OpenClaim := { program := "ytkdkoondchbekaa", sum := "ddaae5f1da36d56ef971e5de60402e2d976826ff4c67be98b6d7bf604c63fd99", func := "carding/cardinglaw13.RefsNames", spec := "refsNames", inPlace := ["internal/bytealg.IndexByteString", "internal/abi.NoEscape", "internal/bytealg.IndexString", "internal/bytealg.CountString"], unfollowed := true, recurses := true, named := ["internal/bytealg.MaxLen"], apart := false }
def RefsNamesSaid : Prop := refsNamesRow.holds Try.pinned (OpenSpec.ofChange refsNamesSpec)

/-- ITS FALSE NEIGHBOUR: 'it returns false'. Refute it at one input. -/
def refsNamesWrong : ChangeSpec := { name := "refsNames", fn := fun _ => fun
  | [d] => { results := [.lit (.bool false)], args := [d] }
  | _ => none }
def RefsNamesWrongFalsely : Prop := refsNamesRow.holds Try.pinned (OpenSpec.ofChange refsNamesWrong)

/-- 'cardinglaw13.RefsBack': WHATEVER THE INPUT: true; the input reads as it did. -/
def refsBackSpec : ChangeSpec := { name := "refsBack", fn := fun _ => fun
  | [d1, d2] => { results := [.lit (.bool true)], args := [d1, d2] }
  | _ => none }
def refsBackRow : OpenClaim := { program := "ytkdkoondchbekaa", sum := "ddaae5f1da36d56ef971e5de60402e2d976826ff4c67be98b6d7bf604c63fd99", func := "carding/cardinglaw13.RefsBack", spec := "refsBack", inPlace := ["internal/bytealg.IndexByteString", "internal/abi.NoEscape", "internal/bytealg.IndexString", "internal/bytealg.CountString"], unfollowed := true, recurses := true, named := ["internal/bytealg.MaxLen"], apart := false }
def RefsBackSaid : Prop := refsBackRow.holds Try.pinned (OpenSpec.ofChange refsBackSpec)

/-- ITS FALSE NEIGHBOUR: 'it returns false'. Refute it at one input. -/
def refsBackWrong : ChangeSpec := { name := "refsBack", fn := fun _ => fun
  | [d1, d2] => { results := [.lit (.bool false)], args := [d1, d2] }
  | _ => none }
def RefsBackWrongFalsely : Prop := refsBackRow.holds Try.pinned (OpenSpec.ofChange refsBackWrong)

/-- 'cardinglaw13.RefsBoth': WHATEVER THE INPUT: true; the input reads as it did. -/
def refsBothSpec : ChangeSpec := { name := "refsBoth", fn := fun _ => fun
  | [d] => { results := [.lit (.bool true)], args := [d] }
  | _ => none }
def refsBothRow : OpenClaim := { program := "ytkdkoondchbekaa", sum := "ddaae5f1da36d56ef971e5de60402e2d976826ff4c67be98b6d7bf604c63fd99", func := "carding/cardinglaw13.RefsBoth", spec := "refsBoth", inPlace := ["internal/bytealg.IndexByteString", "internal/abi.NoEscape", "internal/bytealg.IndexString", "internal/bytealg.CountString"], unfollowed := true, recurses := true, named := ["internal/bytealg.MaxLen"], apart := false }
def RefsBothSaid : Prop := refsBothRow.holds Try.pinned (OpenSpec.ofChange refsBothSpec)

/-- ITS FALSE NEIGHBOUR: 'it returns false'. Refute it at one input. -/
def refsBothWrong : ChangeSpec := { name := "refsBoth", fn := fun _ => fun
  | [d] => { results := [.lit (.bool false)], args := [d] }
  | _ => none }
def RefsBothWrongFalsely : Prop := refsBothRow.holds Try.pinned (OpenSpec.ofChange refsBothWrong)

/-- 'cardinglaw13.RefsNumbers': WHATEVER THE INPUT: true; the input reads as it did. -/
def refsNumbersSpec : ChangeSpec := { name := "refsNumbers", fn := fun _ => fun
  | [d] => { results := [.lit (.bool true)], args := [d] }
  | _ => none }
def refsNumbersRow : OpenClaim := { program := "ytkdkoondchbekaa", sum := "ddaae5f1da36d56ef971e5de60402e2d976826ff4c67be98b6d7bf604c63fd99", func := "carding/cardinglaw13.RefsNumbers", spec := "refsNumbers", inPlace := ["internal/bytealg.IndexByteString", "internal/abi.NoEscape", "internal/bytealg.IndexString", "internal/bytealg.CountString"], unfollowed := true, recurses := true, named := ["internal/bytealg.MaxLen"], apart := false }
def RefsNumbersSaid : Prop := refsNumbersRow.holds Try.pinned (OpenSpec.ofChange refsNumbersSpec)

/-- ITS FALSE NEIGHBOUR: 'it returns false'. Refute it at one input. -/
def refsNumbersWrong : ChangeSpec := { name := "refsNumbers", fn := fun _ => fun
  | [d] => { results := [.lit (.bool false)], args := [d] }
  | _ => none }
def RefsNumbersWrongFalsely : Prop := refsNumbersRow.holds Try.pinned (OpenSpec.ofChange refsNumbersWrong)

/-- 'cardinglaw13.RefsJoined': WHATEVER THE INPUT: true; the input reads as it did. -/
def refsJoinedSpec : ChangeSpec := { name := "refsJoined", fn := fun _ => fun
  | [d1, d2] => { results := [.lit (.bool true)], args := [d1, d2] }
  | _ => none }
def refsJoinedRow : OpenClaim := { program := "ytkdkoondchbekaa", sum := "ddaae5f1da36d56ef971e5de60402e2d976826ff4c67be98b6d7bf604c63fd99", func := "carding/cardinglaw13.RefsJoined", spec := "refsJoined", inPlace := ["internal/bytealg.IndexByteString", "internal/abi.NoEscape", "internal/bytealg.IndexString", "internal/bytealg.CountString"], unfollowed := true, recurses := true, named := ["internal/bytealg.MaxLen"], apart := false }
def RefsJoinedSaid : Prop := refsJoinedRow.holds Try.pinned (OpenSpec.ofChange refsJoinedSpec)

/-- ITS FALSE NEIGHBOUR: 'it returns false'. Refute it at one input. -/
def refsJoinedWrong : ChangeSpec := { name := "refsJoined", fn := fun _ => fun
  | [d1, d2] => { results := [.lit (.bool false)], args := [d1, d2] }
  | _ => none }
def RefsJoinedWrongFalsely : Prop := refsJoinedRow.holds Try.pinned (OpenSpec.ofChange refsJoinedWrong)

/- THE SECOND FORM. 'bulk': how many values and letters a reading holds, each counted each time it is reached (what is shared counts as often as it is met; a slice's spare places count too). A statement '..UptoSaid' is the law's where the arguments, and the package variables that the reading takes, are together of bulk at most 1048576: NARROWER than '..Said'. Prove '..Said' where nothing that the law and all that it calls make is longer than what came in: it says more and counts as full. Else prove '..UptoSaid'. A law counts once. -/
mutual
def uptoBulk {H : Type} : DataW H → Nat
  | .lit (.string bytes) => bytes.length + 1
  | .lit _ => 1
  | .nil => 1
  | .ptr d => uptoBulk d + 1
  | .slice elems spare => uptoBulkAll elems + uptoBulkAll spare + 1
  | .agg parts => uptoBulkAll parts + 1
  | .iface _ d => uptoBulk d + 1
  | .map entries => uptoBulkEntries entries + 1
  | .held _ => 1
def uptoBulkAll {H : Type} : List (DataW H) → Nat
  | [] => 0
  | d :: r => uptoBulk d + uptoBulkAll r
def uptoBulkEntries {H : Type} : List (Lit × DataW H) → Nat
  | [] => 0
  | x :: r => uptoBulkEntry x + uptoBulkEntries r
def uptoBulkEntry {H : Type} : Lit × DataW H → Nat
  | (.string bytes, d) => bytes.length + uptoBulk d + 1
  | (_, d) => uptoBulk d + 1
 end
def uptoSmall : (H : Type) → List (DataW H) → Bool := fun _ ds => decide (uptoBulkAll ds ≤ 1048576)
def OpenSpec.upto (s : _root_.Go.ChangeSpec) : _root_.Go.OpenSpec := { _root_.Go.OpenSpec.ofChange s with cond := some uptoSmall }

/-- 'cardinglaw13.RefsTell', WHERE WHAT IT READS IS OF BULK AT MOST 1048576: true; the input reads as it did. -/
def refsTellUptoRow : OpenClaim := { program := "ytkdkoondchbekaa", sum := "ddaae5f1da36d56ef971e5de60402e2d976826ff4c67be98b6d7bf604c63fd99", func := "carding/cardinglaw13.RefsTell", spec := "refsTell", inPlace := ["internal/bytealg.IndexByteString", "internal/abi.NoEscape", "internal/bytealg.IndexString", "internal/bytealg.CountString"], unfollowed := true, recurses := true, named := ["internal/bytealg.MaxLen"], apart := false, narrowed := true }
def RefsTellUptoSaid : Prop := refsTellUptoRow.holds Try.pinned (OpenSpec.upto refsTellSpec)

/-- 'cardinglaw13.RefsNames', WHERE WHAT IT READS IS OF BULK AT MOST 1048576: true; the input reads as it did. -/
def refsNamesUptoRow : OpenClaim := { program := "ytkdkoondchbekaa", sum := "ddaae5f1da36d56ef971e5de60402e2d976826ff4c67be98b6d7bf604c63fd99", func := "carding/cardinglaw13.RefsNames", spec := "refsNames", inPlace := ["internal/bytealg.IndexByteString", "internal/abi.NoEscape", "internal/bytealg.IndexString", "internal/bytealg.CountString"], unfollowed := true, recurses := true, named := ["internal/bytealg.MaxLen"], apart := false, narrowed := true }
def RefsNamesUptoSaid : Prop := refsNamesUptoRow.holds Try.pinned (OpenSpec.upto refsNamesSpec)

/-- 'cardinglaw13.RefsBack', WHERE WHAT IT READS IS OF BULK AT MOST 1048576: true; the input reads as it did. -/
def refsBackUptoRow : OpenClaim := { program := "ytkdkoondchbekaa", sum := "ddaae5f1da36d56ef971e5de60402e2d976826ff4c67be98b6d7bf604c63fd99", func := "carding/cardinglaw13.RefsBack", spec := "refsBack", inPlace := ["internal/bytealg.IndexByteString", "internal/abi.NoEscape", "internal/bytealg.IndexString", "internal/bytealg.CountString"], unfollowed := true, recurses := true, named := ["internal/bytealg.MaxLen"], apart := false, narrowed := true }
def RefsBackUptoSaid : Prop := refsBackUptoRow.holds Try.pinned (OpenSpec.upto refsBackSpec)

/-- 'cardinglaw13.RefsBoth', WHERE WHAT IT READS IS OF BULK AT MOST 1048576: true; the input reads as it did. -/
def refsBothUptoRow : OpenClaim := { program := "ytkdkoondchbekaa", sum := "ddaae5f1da36d56ef971e5de60402e2d976826ff4c67be98b6d7bf604c63fd99", func := "carding/cardinglaw13.RefsBoth", spec := "refsBoth", inPlace := ["internal/bytealg.IndexByteString", "internal/abi.NoEscape", "internal/bytealg.IndexString", "internal/bytealg.CountString"], unfollowed := true, recurses := true, named := ["internal/bytealg.MaxLen"], apart := false, narrowed := true }
def RefsBothUptoSaid : Prop := refsBothUptoRow.holds Try.pinned (OpenSpec.upto refsBothSpec)

/-- 'cardinglaw13.RefsNumbers', WHERE WHAT IT READS IS OF BULK AT MOST 1048576: true; the input reads as it did. -/
def refsNumbersUptoRow : OpenClaim := { program := "ytkdkoondchbekaa", sum := "ddaae5f1da36d56ef971e5de60402e2d976826ff4c67be98b6d7bf604c63fd99", func := "carding/cardinglaw13.RefsNumbers", spec := "refsNumbers", inPlace := ["internal/bytealg.IndexByteString", "internal/abi.NoEscape", "internal/bytealg.IndexString", "internal/bytealg.CountString"], unfollowed := true, recurses := true, named := ["internal/bytealg.MaxLen"], apart := false, narrowed := true }
def RefsNumbersUptoSaid : Prop := refsNumbersUptoRow.holds Try.pinned (OpenSpec.upto refsNumbersSpec)

/-- 'cardinglaw13.RefsJoined', WHERE WHAT IT READS IS OF BULK AT MOST 1048576: true; the input reads as it did. -/
def refsJoinedUptoRow : OpenClaim := { program := "ytkdkoondchbekaa", sum := "ddaae5f1da36d56ef971e5de60402e2d976826ff4c67be98b6d7bf604c63fd99", func := "carding/cardinglaw13.RefsJoined", spec := "refsJoined", inPlace := ["internal/bytealg.IndexByteString", "internal/abi.NoEscape", "internal/bytealg.IndexString", "internal/bytealg.CountString"], unfollowed := true, recurses := true, named := ["internal/bytealg.MaxLen"], apart := false, narrowed := true }
def RefsJoinedUptoSaid : Prop := refsJoinedUptoRow.holds Try.pinned (OpenSpec.upto refsJoinedSpec)

end Rows
end Go.Proofs.Ytkdkoondchbekaa
