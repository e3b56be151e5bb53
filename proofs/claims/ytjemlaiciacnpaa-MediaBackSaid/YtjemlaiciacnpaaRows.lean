/-
  No cell of these rows narrows 'for every input' (looked for: loops, veiled, ifaces, maps, wideKeys, modest, calm, conditions, laid).
  DERIVED. THE GIVEN ROWS OF THIS SEAT. 4 by the template 'for every input the law returns true; each argument reads behind the call as it read before'; 0 by the template 'total and deterministic' (their statements: YtjemlaiciacnpaaTotals.lean).
  GIVEN WITH THE SEED: the statements are not yours to turn. If you find one false, say at which input.
  Laid BY PROGRAM, IN A SANDBOX (cutbox-rows.mjs): the forced cells as the released guide's own fill.sh prints them over the translation afe189ed877315c9… (all of the seat's roots in one cut). By AI agents, Wed Nov 11 2026. No macro, syntax, notation, axiom, sorry.
-/
import Derived.Test.YtjemlaiciacnpaaChecked
import GoSem.Claim
import GoSem.ClaimJoined
import GoSem.ClaimMapViews
import Derived.JoinedTies
import Derived.KernelRfl
namespace Go.Proofs.Ytjemlaiciacnpaa
/- THE CELL 'sum', in the pinned program and in every row, IS THE sha256 OF THE DUMP (.gsa) THAT YtjemlaiciacnpaaProg.lean LOADS. Nothing in Lean hashes anything: it is a label: what it is worth is what the hold of that sum in a sandbox is worth. -/
noncomputable def Try.pinned : Pinned := { name := "ytjemlaiciacnpaa", sum := "afe189ed877315c930b45342548aff155c59ffab302dbd58218d450a5954da9a", checked := Try.checked }
namespace Rows
def none {H : Type} : Left H := { results := [], args := [] }

/-- 'cardinglaw06.MediaReads': WHATEVER THE INPUT: true; the input reads as it did. -/
def mediaReadsSpec : ChangeSpec := { name := "mediaReads", fn := fun _ => fun
  | [d] => { results := [.lit (.bool true)], args := [d] }
  | _ => none }
def mediaReadsRow : OpenClaim := { program := "ytjemlaiciacnpaa", sum := "afe189ed877315c930b45342548aff155c59ffab302dbd58218d450a5954da9a", func := "carding/cardinglaw06.MediaReads", spec := "mediaReads", inPlace := ["internal/bytealg.IndexByteString"], unfollowed := true, recurses := true, apart := false }
def MediaReadsSaid : Prop := mediaReadsRow.holds Try.pinned (OpenSpec.ofChange mediaReadsSpec)

/-- ITS FALSE NEIGHBOUR: 'it returns false'. Refute it at one input. -/
def mediaReadsWrong : ChangeSpec := { name := "mediaReads", fn := fun _ => fun
  | [d] => { results := [.lit (.bool false)], args := [d] }
  | _ => none }
def MediaReadsWrongFalsely : Prop := mediaReadsRow.holds Try.pinned (OpenSpec.ofChange mediaReadsWrong)

/-- 'cardinglaw06.MediaBlank': WHATEVER THE INPUT: true; the input reads as it did. -/
def mediaBlankSpec : ChangeSpec := { name := "mediaBlank", fn := fun _ => fun
  | [d1, d2] => { results := [.lit (.bool true)], args := [d1, d2] }
  | _ => none }
def mediaBlankRow : OpenClaim := { program := "ytjemlaiciacnpaa", sum := "afe189ed877315c930b45342548aff155c59ffab302dbd58218d450a5954da9a", func := "carding/cardinglaw06.MediaBlank", spec := "mediaBlank", inPlace := ["internal/bytealg.IndexByteString"], unfollowed := true, recurses := true, apart := false }
def MediaBlankSaid : Prop := mediaBlankRow.holds Try.pinned (OpenSpec.ofChange mediaBlankSpec)

/-- ITS FALSE NEIGHBOUR: 'it returns false'. Refute it at one input. -/
def mediaBlankWrong : ChangeSpec := { name := "mediaBlank", fn := fun _ => fun
  | [d1, d2] => { results := [.lit (.bool false)], args := [d1, d2] }
  | _ => none }
def MediaBlankWrongFalsely : Prop := mediaBlankRow.holds Try.pinned (OpenSpec.ofChange mediaBlankWrong)

/-- 'cardinglaw06.MediaBack': WHATEVER THE INPUT: true; the input reads as it did. -/
def mediaBackSpec : ChangeSpec := { name := "mediaBack", fn := fun _ => fun
  | [d1, d2] => { results := [.lit (.bool true)], args := [d1, d2] }
  | _ => none }
def mediaBackRow : OpenClaim := { program := "ytjemlaiciacnpaa", sum := "afe189ed877315c930b45342548aff155c59ffab302dbd58218d450a5954da9a", func := "carding/cardinglaw06.MediaBack", spec := "mediaBack", inPlace := ["internal/bytealg.IndexByteString", "internal/bytealg.IndexString"], unfollowed := true, recurses := true, named := ["internal/bytealg.MaxLen"], apart := false }
def MediaBackSaid : Prop := mediaBackRow.holds Try.pinned (OpenSpec.ofChange mediaBackSpec)

/-- ITS FALSE NEIGHBOUR: 'it returns false'. Refute it at one input. -/
def mediaBackWrong : ChangeSpec := { name := "mediaBack", fn := fun _ => fun
  | [d1, d2] => { results := [.lit (.bool false)], args := [d1, d2] }
  | _ => none }
def MediaBackWrongFalsely : Prop := mediaBackRow.holds Try.pinned (OpenSpec.ofChange mediaBackWrong)

/-- 'cardinglaw06.MediaWrites': WHATEVER THE INPUT: true; the input reads as it did. -/
def mediaWritesSpec : ChangeSpec := { name := "mediaWrites", fn := fun _ => fun
  | [d1, d2] => { results := [.lit (.bool true)], args := [d1, d2] }
  | _ => none }
def mediaWritesRow : OpenClaim := { program := "ytjemlaiciacnpaa", sum := "afe189ed877315c930b45342548aff155c59ffab302dbd58218d450a5954da9a", func := "carding/cardinglaw06.MediaWrites", spec := "mediaWrites", inPlace := ["internal/bytealg.IndexByteString", "internal/bytealg.IndexString"], unfollowed := true, recurses := true, named := ["internal/bytealg.MaxLen"], apart := false }
def MediaWritesSaid : Prop := mediaWritesRow.holds Try.pinned (OpenSpec.ofChange mediaWritesSpec)

/-- ITS FALSE NEIGHBOUR: 'it returns false'. Refute it at one input. -/
def mediaWritesWrong : ChangeSpec := { name := "mediaWrites", fn := fun _ => fun
  | [d1, d2] => { results := [.lit (.bool false)], args := [d1, d2] }
  | _ => none }
def MediaWritesWrongFalsely : Prop := mediaWritesRow.holds Try.pinned (OpenSpec.ofChange mediaWritesWrong)

/- THE SECOND FORM. 'bulk': how many values and letters a reading holds, each counted each time it is reached (what is shared counts as often as it is met; a slice's spare places count too). A statement '..UptoSaid' is the law's where the arguments, and the package variables that the reading takes, are together of bulk at most 1048576: NARROWER than '..Said'. Prove '..Said' where nothing that the law and all that it calls make is longer than what came in: it says more and counts as full. Else prove '..UptoSaid'. A law counts once. -/
mutual
def uptoBulk {H : Type} : DataW H → Nat
  | .lit (.string bytes) => bytes.length + 1
  | .lit _ => 1
  | .nil => 1
  | .ptr d => uptoBulk d + 1
  | .slice elems spare => uptoBulkAll elems + uptoBulkAll spare + 1
  | .agg parts => uptoBulkAll parts + 1
  | .iface _ d => uptoBulk d + 1
  | .map entries => uptoBulkEntries entries + 1
  | .held _ => 1
def uptoBulkAll {H : Type} : List (DataW H) → Nat
  | [] => 0
  | d :: r => uptoBulk d + uptoBulkAll r
def uptoBulkEntries {H : Type} : List (Lit × DataW H) → Nat
  | [] => 0
  | x :: r => uptoBulkEntry x + uptoBulkEntries r
def uptoBulkEntry {H : Type} : Lit × DataW H → Nat
  | (.string bytes, d) => bytes.length + uptoBulk d + 1
  | (_, d) => uptoBulk d + 1
 end
def uptoSmall : (H : Type) → List (DataW H) → Bool := fun _ ds => decide (uptoBulkAll ds ≤ 1048576)
def OpenSpec.upto (s : _root_.Go.ChangeSpec) : _root_.Go.OpenSpec := { _root_.Go.OpenSpec.ofChange s with cond := some uptoSmall }

/-- 'cardinglaw06.MediaReads', WHERE WHAT IT READS IS OF BULK AT MOST 1048576: true; the input reads as it did. -/
def mediaReadsUptoRow : OpenClaim := { program := "ytjemlaiciacnpaa", sum := "afe189ed877315c930b45342548aff155c59ffab302dbd58218d450a5954da9a", func := "carding/cardinglaw06.MediaReads", spec := "mediaReads", inPlace := ["internal/bytealg.IndexByteString"], unfollowed := true, recurses := true, apart := false, narrowed := true }
def MediaReadsUptoSaid : Prop := mediaReadsUptoRow.holds Try.pinned (OpenSpec.upto mediaReadsSpec)

/-- 'cardinglaw06.MediaBlank', WHERE WHAT IT READS IS OF BULK AT MOST 1048576: true; the input reads as it did. -/
def mediaBlankUptoRow : OpenClaim := { program := "ytjemlaiciacnpaa", sum := "afe189ed877315c930b45342548aff155c59ffab302dbd58218d450a5954da9a", func := "carding/cardinglaw06.MediaBlank", spec := "mediaBlank", inPlace := ["internal/bytealg.IndexByteString"], unfollowed := true, recurses := true, apart := false, narrowed := true }
def MediaBlankUptoSaid : Prop := mediaBlankUptoRow.holds Try.pinned (OpenSpec.upto mediaBlankSpec)

/-- 'cardinglaw06.MediaBack', WHERE WHAT IT READS IS OF BULK AT MOST 1048576: true; the input reads as it did. -/
def mediaBackUptoRow : OpenClaim := { program := "ytjemlaiciacnpaa", sum := "afe189ed877315c930b45342548aff155c59ffab302dbd58218d450a5954da9a", func := "carding/cardinglaw06.MediaBack", spec := "mediaBack", inPlace := ["internal/bytealg.IndexByteString", "internal/bytealg.IndexString"], unfollowed := true, recurses := true, named := ["internal/bytealg.MaxLen"], apart := false, narrowed := true }
def MediaBackUptoSaid : Prop := mediaBackUptoRow.holds Try.pinned (OpenSpec.upto mediaBackSpec)

/-- 'cardinglaw06.MediaWrites', WHERE WHAT IT READS IS OF BULK AT MOST 1048576: true; the input reads as it did. -/
def mediaWritesUptoRow : OpenClaim := { program := "ytjemlaiciacnpaa", sum := "afe189ed877315c930b45342548aff155c59ffab302dbd58218d450a5954da9a", func := "carding/cardinglaw06.MediaWrites", spec := "mediaWrites", inPlace := ["internal/bytealg.IndexByteString", "internal/bytealg.IndexString"], unfollowed := true, recurses := true, named := ["internal/bytealg.MaxLen"], apart := false, narrowed := true }
def MediaWritesUptoSaid : Prop := mediaWritesUptoRow.holds Try.pinned (OpenSpec.upto mediaWritesSpec)

end Rows
end Go.Proofs.Ytjemlaiciacnpaa
