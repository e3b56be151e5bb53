/-
  NARROWER THAN 'FOR EVERY INPUT', by the rows' own cells (each row's printed sentence says how): CharsLines: laid · CharsNames: laid · CharsCut: laid · CharsTell: laid · CharsNest: laid · CharsTexts: laid.
  DERIVED. THE GIVEN ROWS OF THIS SEAT. 6 by the template 'for every input the law returns true; each argument reads behind the call as it read before'; 0 by the template 'total and deterministic' (their statements: YtkdkoondchbekaaDoorTotals.lean).
  GIVEN WITH THE SEED: the statements are not yours to turn. If you find one false, say at which input.
  Laid BY PROGRAM, IN A SANDBOX (cutbox-rows.mjs): the forced cells as the released guide's own fill.sh prints them over the translation 3eb87baf1ab5e279… (all of the seat's roots in one cut). By AI agents, Wed Nov 11 2026. No macro, syntax, notation, axiom, sorry.
-/
import Derived.Test.YtkdkoondchbekaaDoorChecked
import GoSem.PinnedTables
import GoSem.Claim
import GoSem.ClaimJoined
import GoSem.ClaimMapViews
import Derived.JoinedTies
import Derived.KernelRfl
namespace Go.Proofs.YtkdkoondchbekaaDoor
/- THE CELL 'sum', in the pinned program and in every row, IS THE sha256 OF THE DUMP (.gsa) THAT YtkdkoondchbekaaDoorProg.lean LOADS. Nothing in Lean hashes anything: it is a label: what it is worth is what the hold of that sum in a sandbox is worth. -/
noncomputable def Tryd.pinned : Pinned := { name := "ytkdkoondchbekaadoor", sum := "3eb87baf1ab5e279156d754f5cbd49c821fed4136830aee017b9dccefebb14a4", checked := Tryd.checked }
namespace Rows
def none {H : Type} : Left H := { results := [], args := [] }

/- WHAT THE LISTED PACKAGE-LEVEL VARIABLES READ AS WHEN THE CALL BEGINS. Each datum BY PROGRAM (the guide's laid-datum.mjs) off the statement by which the dump's own 'gosem.cut.vars' lays the variable. In a bare row this is a premise. The card (YtkdkoondchbekaaDoorCards.lean) ties it to the program's text. -/
def laid_unicode_utf8_acceptRanges {H : Type} : DataW H := .agg [.agg [.lit (.int .u8 128), .lit (.int .u8 191)], .agg [.lit (.int .u8 160), .lit (.int .u8 191)], .agg [.lit (.int .u8 128), .lit (.int .u8 159)], .agg [.lit (.int .u8 144), .lit (.int .u8 191)], .agg [.lit (.int .u8 128), .lit (.int .u8 143)], .agg [.lit (.int .u8 0), .lit (.int .u8 0)], .agg [.lit (.int .u8 0), .lit (.int .u8 0)], .agg [.lit (.int .u8 0), .lit (.int .u8 0)], .agg [.lit (.int .u8 0), .lit (.int .u8 0)], .agg [.lit (.int .u8 0), .lit (.int .u8 0)], .agg [.lit (.int .u8 0), .lit (.int .u8 0)], .agg [.lit (.int .u8 0), .lit (.int .u8 0)], .agg [.lit (.int .u8 0), .lit (.int .u8 0)], .agg [.lit (.int .u8 0), .lit (.int .u8 0)], .agg [.lit (.int .u8 0), .lit (.int .u8 0)], .agg [.lit (.int .u8 0), .lit (.int .u8 0)]]
/-- One of Go's own tables, pinned by name: the form's constant. -/
def laid_unicode_utf8_first : DataW Unit := Go.Pinned.utf8First

/-- 'cardinglaw09.CharsLines': WHATEVER THE INPUT: true; the input reads as it did. -/
def charsLinesSpec : ChangeSpec := { name := "charsLines", fn := fun _ => fun
  | [d1, d2] => { results := [.lit (.bool true)], args := [d1, d2] }
  | _ => none }
def charsLinesRow : OpenClaim := { program := "ytkdkoondchbekaadoor", sum := "3eb87baf1ab5e279156d754f5cbd49c821fed4136830aee017b9dccefebb14a4", func := "carding/cardinglaw09.CharsLines", spec := "charsLines", inPlace := ["internal/bytealg.IndexByteString", "internal/bytealg.IndexString", "internal/bytealg.CountString", "internal/abi.NoEscape", "internal/bytealg.MakeNoZero"], unfollowed := true, recurses := true, named := ["internal/bytealg.MaxLen", "unicode/utf8.first", "unicode/utf8.acceptRanges"], apart := false, laid := [("unicode/utf8.acceptRanges", laid_unicode_utf8_acceptRanges), ("unicode/utf8.first", laid_unicode_utf8_first)] }
def CharsLinesSaid : Prop := charsLinesRow.holds Tryd.pinned (OpenSpec.ofChange charsLinesSpec)

/-- ITS FALSE NEIGHBOUR: 'it returns false'. Refute it at one input. -/
def charsLinesWrong : ChangeSpec := { name := "charsLines", fn := fun _ => fun
  | [d1, d2] => { results := [.lit (.bool false)], args := [d1, d2] }
  | _ => none }
def CharsLinesWrongFalsely : Prop := charsLinesRow.holds Tryd.pinned (OpenSpec.ofChange charsLinesWrong)

/-- 'cardinglaw09.CharsNames': WHATEVER THE INPUT: true; the input reads as it did. -/
def charsNamesSpec : ChangeSpec := { name := "charsNames", fn := fun _ => fun
  | [d1, d2] => { results := [.lit (.bool true)], args := [d1, d2] }
  | _ => none }
def charsNamesRow : OpenClaim := { program := "ytkdkoondchbekaadoor", sum := "3eb87baf1ab5e279156d754f5cbd49c821fed4136830aee017b9dccefebb14a4", func := "carding/cardinglaw09.CharsNames", spec := "charsNames", inPlace := ["internal/bytealg.IndexByteString", "internal/bytealg.IndexString", "internal/bytealg.CountString", "internal/abi.NoEscape", "internal/bytealg.MakeNoZero"], unfollowed := true, recurses := true, named := ["internal/bytealg.MaxLen", "unicode/utf8.first", "unicode/utf8.acceptRanges"], apart := false, laid := [("unicode/utf8.acceptRanges", laid_unicode_utf8_acceptRanges), ("unicode/utf8.first", laid_unicode_utf8_first)] }
def CharsNamesSaid : Prop := charsNamesRow.holds Tryd.pinned (OpenSpec.ofChange charsNamesSpec)

/-- ITS FALSE NEIGHBOUR: 'it returns false'. Refute it at one input. -/
def charsNamesWrong : ChangeSpec := { name := "charsNames", fn := fun _ => fun
  | [d1, d2] => { results := [.lit (.bool false)], args := [d1, d2] }
  | _ => none }
def CharsNamesWrongFalsely : Prop := charsNamesRow.holds Tryd.pinned (OpenSpec.ofChange charsNamesWrong)

/-- 'cardinglaw09.CharsCut': WHATEVER THE INPUT: true; the input reads as it did. -/
def charsCutSpec : ChangeSpec := { name := "charsCut", fn := fun _ => fun
  | [d] => { results := [.lit (.bool true)], args := [d] }
  | _ => none }
def charsCutRow : OpenClaim := { program := "ytkdkoondchbekaadoor", sum := "3eb87baf1ab5e279156d754f5cbd49c821fed4136830aee017b9dccefebb14a4", func := "carding/cardinglaw09.CharsCut", spec := "charsCut", inPlace := ["internal/bytealg.IndexByteString", "internal/bytealg.IndexString", "internal/bytealg.CountString", "internal/abi.NoEscape", "internal/bytealg.MakeNoZero"], unfollowed := true, recurses := true, named := ["internal/bytealg.MaxLen", "unicode/utf8.first", "unicode/utf8.acceptRanges"], apart := false, laid := [("unicode/utf8.acceptRanges", laid_unicode_utf8_acceptRanges), ("unicode/utf8.first", laid_unicode_utf8_first)] }
def CharsCutSaid : Prop := charsCutRow.holds Tryd.pinned (OpenSpec.ofChange charsCutSpec)

/-- ITS FALSE NEIGHBOUR: 'it returns false'. Refute it at one input. -/
def charsCutWrong : ChangeSpec := { name := "charsCut", fn := fun _ => fun
  | [d] => { results := [.lit (.bool false)], args := [d] }
  | _ => none }
def CharsCutWrongFalsely : Prop := charsCutRow.holds Tryd.pinned (OpenSpec.ofChange charsCutWrong)

/-- 'cardinglaw09.CharsTell': WHATEVER THE INPUT: true; the input reads as it did. -/
def charsTellSpec : ChangeSpec := { name := "charsTell", fn := fun _ => fun
  | [d] => { results := [.lit (.bool true)], args := [d] }
  | _ => none }
def charsTellRow : OpenClaim := { program := "ytkdkoondchbekaadoor", sum := "3eb87baf1ab5e279156d754f5cbd49c821fed4136830aee017b9dccefebb14a4", func := "carding/cardinglaw09.CharsTell", spec := "charsTell", inPlace := ["internal/bytealg.IndexByteString", "internal/bytealg.IndexString", "internal/bytealg.CountString", "internal/abi.NoEscape", "internal/bytealg.MakeNoZero"], unfollowed := true, recurses := true, named := ["internal/bytealg.MaxLen", "unicode/utf8.first", "unicode/utf8.acceptRanges"], apart := false, laid := [("unicode/utf8.acceptRanges", laid_unicode_utf8_acceptRanges), ("unicode/utf8.first", laid_unicode_utf8_first)] }
def CharsTellSaid : Prop := charsTellRow.holds Tryd.pinned (OpenSpec.ofChange charsTellSpec)

/-- ITS FALSE NEIGHBOUR: 'it returns false'. Refute it at one input. -/
def charsTellWrong : ChangeSpec := { name := "charsTell", fn := fun _ => fun
  | [d] => { results := [.lit (.bool false)], args := [d] }
  | _ => none }
def CharsTellWrongFalsely : Prop := charsTellRow.holds Tryd.pinned (OpenSpec.ofChange charsTellWrong)

/-- 'cardinglaw09.CharsNest': WHATEVER THE INPUT: true; the input reads as it did. -/
def charsNestSpec : ChangeSpec := { name := "charsNest", fn := fun _ => fun
  | [d] => { results := [.lit (.bool true)], args := [d] }
  | _ => none }
def charsNestRow : OpenClaim := { program := "ytkdkoondchbekaadoor", sum := "3eb87baf1ab5e279156d754f5cbd49c821fed4136830aee017b9dccefebb14a4", func := "carding/cardinglaw09.CharsNest", spec := "charsNest", inPlace := ["internal/bytealg.IndexByteString", "internal/bytealg.IndexString", "internal/bytealg.CountString", "internal/abi.NoEscape", "internal/bytealg.MakeNoZero"], unfollowed := true, recurses := true, named := ["internal/bytealg.MaxLen", "unicode/utf8.first", "unicode/utf8.acceptRanges"], apart := false, laid := [("unicode/utf8.acceptRanges", laid_unicode_utf8_acceptRanges), ("unicode/utf8.first", laid_unicode_utf8_first)] }
def CharsNestSaid : Prop := charsNestRow.holds Tryd.pinned (OpenSpec.ofChange charsNestSpec)

/-- ITS FALSE NEIGHBOUR: 'it returns false'. Refute it at one input. -/
def charsNestWrong : ChangeSpec := { name := "charsNest", fn := fun _ => fun
  | [d] => { results := [.lit (.bool false)], args := [d] }
  | _ => none }
def CharsNestWrongFalsely : Prop := charsNestRow.holds Tryd.pinned (OpenSpec.ofChange charsNestWrong)

/-- 'cardinglaw09.CharsTexts': WHATEVER THE INPUT: true; the input reads as it did. -/
def charsTextsSpec : ChangeSpec := { name := "charsTexts", fn := fun _ => fun
  | [d] => { results := [.lit (.bool true)], args := [d] }
  | _ => none }
def charsTextsRow : OpenClaim := { program := "ytkdkoondchbekaadoor", sum := "3eb87baf1ab5e279156d754f5cbd49c821fed4136830aee017b9dccefebb14a4", func := "carding/cardinglaw09.CharsTexts", spec := "charsTexts", inPlace := ["internal/bytealg.IndexByteString", "internal/bytealg.IndexString", "internal/bytealg.CountString", "internal/abi.NoEscape", "internal/bytealg.MakeNoZero"], unfollowed := true, recurses := true, named := ["internal/bytealg.MaxLen", "unicode/utf8.first", "unicode/utf8.acceptRanges"], apart := false, laid := [("unicode/utf8.acceptRanges", laid_unicode_utf8_acceptRanges), ("unicode/utf8.first", laid_unicode_utf8_first)] }
def CharsTextsSaid : Prop := charsTextsRow.holds Tryd.pinned (OpenSpec.ofChange charsTextsSpec)

/-- ITS FALSE NEIGHBOUR: 'it returns false'. Refute it at one input. -/
def charsTextsWrong : ChangeSpec := { name := "charsTexts", fn := fun _ => fun
  | [d] => { results := [.lit (.bool false)], args := [d] }
  | _ => none }
def CharsTextsWrongFalsely : Prop := charsTextsRow.holds Tryd.pinned (OpenSpec.ofChange charsTextsWrong)

/- THE SECOND FORM. 'bulk': how many values and letters a reading holds, each counted each time it is reached (what is shared counts as often as it is met; a slice's spare places count too). A statement '..UptoSaid' is the law's where the arguments, and the package variables that the reading takes, are together of bulk at most 1048576: NARROWER than '..Said'. Prove '..Said' where nothing that the law and all that it calls make is longer than what came in: it says more and counts as full. Else prove '..UptoSaid'. A law counts once. -/
mutual
def uptoBulk {H : Type} : DataW H → Nat
  | .lit (.string bytes) => bytes.length + 1
  | .lit _ => 1
  | .nil => 1
  | .ptr d => uptoBulk d + 1
  | .slice elems spare => uptoBulkAll elems + uptoBulkAll spare + 1
  | .agg parts => uptoBulkAll parts + 1
  | .iface _ d => uptoBulk d + 1
  | .map entries => uptoBulkEntries entries + 1
  | .held _ => 1
def uptoBulkAll {H : Type} : List (DataW H) → Nat
  | [] => 0
  | d :: r => uptoBulk d + uptoBulkAll r
def uptoBulkEntries {H : Type} : List (Lit × DataW H) → Nat
  | [] => 0
  | x :: r => uptoBulkEntry x + uptoBulkEntries r
def uptoBulkEntry {H : Type} : Lit × DataW H → Nat
  | (.string bytes, d) => bytes.length + uptoBulk d + 1
  | (_, d) => uptoBulk d + 1
 end
def uptoSmall : (H : Type) → List (DataW H) → Bool := fun _ ds => decide (uptoBulkAll ds ≤ 1048576)
def OpenSpec.upto (s : _root_.Go.ChangeSpec) : _root_.Go.OpenSpec := { _root_.Go.OpenSpec.ofChange s with cond := some uptoSmall }

/-- 'cardinglaw09.CharsLines', WHERE WHAT IT READS IS OF BULK AT MOST 1048576: true; the input reads as it did. -/
def charsLinesUptoRow : OpenClaim := { program := "ytkdkoondchbekaadoor", sum := "3eb87baf1ab5e279156d754f5cbd49c821fed4136830aee017b9dccefebb14a4", func := "carding/cardinglaw09.CharsLines", spec := "charsLines", inPlace := ["internal/bytealg.IndexByteString", "internal/bytealg.IndexString", "internal/bytealg.CountString", "internal/abi.NoEscape", "internal/bytealg.MakeNoZero"], unfollowed := true, recurses := true, named := ["internal/bytealg.MaxLen", "unicode/utf8.first", "unicode/utf8.acceptRanges"], apart := false, laid := [("unicode/utf8.acceptRanges", laid_unicode_utf8_acceptRanges), ("unicode/utf8.first", laid_unicode_utf8_first)], narrowed := true }
def CharsLinesUptoSaid : Prop := charsLinesUptoRow.holds Tryd.pinned (OpenSpec.upto charsLinesSpec)

/-- 'cardinglaw09.CharsNames', WHERE WHAT IT READS IS OF BULK AT MOST 1048576: true; the input reads as it did. -/
def charsNamesUptoRow : OpenClaim := { program := "ytkdkoondchbekaadoor", sum := "3eb87baf1ab5e279156d754f5cbd49c821fed4136830aee017b9dccefebb14a4", func := "carding/cardinglaw09.CharsNames", spec := "charsNames", inPlace := ["internal/bytealg.IndexByteString", "internal/bytealg.IndexString", "internal/bytealg.CountString", "internal/abi.NoEscape", "internal/bytealg.MakeNoZero"], unfollowed := true, recurses := true, named := ["internal/bytealg.MaxLen", "unicode/utf8.first", "unicode/utf8.acceptRanges"], apart := false, laid := [("unicode/utf8.acceptRanges", laid_unicode_utf8_acceptRanges), ("unicode/utf8.first", laid_unicode_utf8_first)], narrowed := true }
def CharsNamesUptoSaid : Prop := charsNamesUptoRow.holds Tryd.pinned (OpenSpec.upto charsNamesSpec)

/-- 'cardinglaw09.CharsCut', WHERE WHAT IT READS IS OF BULK AT MOST 1048576: true; the input reads as it did. -/
def charsCutUptoRow : OpenClaim := { program := "ytkdkoondchbekaadoor", sum := "3eb87baf1ab5e279156d754f5cbd49c821fed4136830aee017b9dccefebb14a4", func := "carding/cardinglaw09.CharsCut", spec := "charsCut", inPlace := ["internal/bytealg.IndexByteString", "internal/bytealg.IndexString", "internal/bytealg.CountString", "internal/abi.NoEscape", "internal/bytealg.MakeNoZero"], unfollowed := true, recurses := true, named := ["internal/bytealg.MaxLen", "unicode/utf8.first", "unicode/utf8.acceptRanges"], apart := false, laid := [("unicode/utf8.acceptRanges", laid_unicode_utf8_acceptRanges), ("unicode/utf8.first", laid_unicode_utf8_first)], narrowed := true }
def CharsCutUptoSaid : Prop := charsCutUptoRow.holds Tryd.pinned (OpenSpec.upto charsCutSpec)

/-- 'cardinglaw09.CharsTell', WHERE WHAT IT READS IS OF BULK AT MOST 1048576: true; the input reads as it did. -/
def charsTellUptoRow : OpenClaim := { program := "ytkdkoondchbekaadoor", sum := "3eb87baf1ab5e279156d754f5cbd49c821fed4136830aee017b9dccefebb14a4", func := "carding/cardinglaw09.CharsTell", spec := "charsTell", inPlace := ["internal/bytealg.IndexByteString", "internal/bytealg.IndexString", "internal/bytealg.CountString", "internal/abi.NoEscape", "internal/bytealg.MakeNoZero"], unfollowed := true, recurses := true, named := ["internal/bytealg.MaxLen", "unicode/utf8.first", "unicode/utf8.acceptRanges"], apart := false, laid := [("unicode/utf8.acceptRanges", laid_unicode_utf8_acceptRanges), ("unicode/utf8.first", laid_unicode_utf8_first)], narrowed := true }
def CharsTellUptoSaid : Prop := charsTellUptoRow.holds Tryd.pinned (OpenSpec.upto charsTellSpec)

/-- 'cardinglaw09.CharsNest', WHERE WHAT IT READS IS OF BULK AT MOST 1048576: true; the input reads as it did. -/
def charsNestUptoRow : OpenClaim := { program := "ytkdkoondchbekaadoor", sum := "3eb87baf1ab5e279156d754f5cbd49c821fed4136830aee017b9dccefebb14a4", func := "carding/cardinglaw09.CharsNest", spec := "charsNest", inPlace := ["internal/bytealg.IndexByteString", "internal/bytealg.IndexString", "internal/bytealg.CountString", "internal/abi.NoEscape", "internal/bytealg.MakeNoZero"], unfollowed := true, recurses := true, named := ["internal/bytealg.MaxLen", "unicode/utf8.first", "unicode/utf8.acceptRanges"], apart := false, laid := [("unicode/utf8.acceptRanges", laid_unicode_utf8_acceptRanges), ("unicode/utf8.first", laid_unicode_utf8_first)], narrowed := true }
def CharsNestUptoSaid : Prop := charsNestUptoRow.holds Tryd.pinned (OpenSpec.upto charsNestSpec)

/-- 'cardinglaw09.CharsTexts', WHERE WHAT IT READS IS OF BULK AT MOST 1048576: true; the input reads as it did. -/
def charsTextsUptoRow : OpenClaim := { program := "ytkdkoondchbekaadoor", sum := "3eb87baf1ab5e279156d754f5cbd49c821fed4136830aee017b9dccefebb14a4", func := "carding/cardinglaw09.CharsTexts", spec := "charsTexts", inPlace := ["internal/bytealg.IndexByteString", "internal/bytealg.IndexString", "internal/bytealg.CountString", "internal/abi.NoEscape", "internal/bytealg.MakeNoZero"], unfollowed := true, recurses := true, named := ["internal/bytealg.MaxLen", "unicode/utf8.first", "unicode/utf8.acceptRanges"], apart := false, laid := [("unicode/utf8.acceptRanges", laid_unicode_utf8_acceptRanges), ("unicode/utf8.first", laid_unicode_utf8_first)], narrowed := true }
def CharsTextsUptoSaid : Prop := charsTextsUptoRow.holds Tryd.pinned (OpenSpec.upto charsTextsSpec)

end Rows
end Go.Proofs.YtkdkoondchbekaaDoor
