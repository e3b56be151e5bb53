/-
  No cell of these rows narrows 'for every input' (looked for: loops, veiled, ifaces, maps, wideKeys, modest, calm, conditions, laid).
  DERIVED. THE GIVEN ROWS OF THIS SEAT. 5 by the template 'for every input the law returns true; each argument reads behind the call as it read before'; 0 by the template 'total and deterministic' (their statements: YtppabccedmdajaaTotals.lean).
  GIVEN WITH THE SEED: the statements are not yours to turn. If you find one false, say at which input.
  Laid BY PROGRAM, IN A SANDBOX (cutbox-rows.mjs): the forced cells as the released guide's own fill.sh prints them over the translation 303c05ab013fba89… (all of the seat's roots in one cut). By AI agents, Wed Nov 11 2026. No macro, syntax, notation, axiom, sorry.
-/
import Derived.Test.YtppabccedmdajaaChecked
import GoSem.Claim
import GoSem.ClaimJoined
import GoSem.ClaimMapViews
import Derived.JoinedTies
import Derived.KernelRfl
namespace Go.Proofs.Ytppabccedmdajaa
/- THE CELL 'sum', in the pinned program and in every row, IS THE sha256 OF THE DUMP (.gsa) THAT YtppabccedmdajaaProg.lean LOADS. Nothing in Lean hashes anything: it is a label: what it is worth is what the hold of that sum in a sandbox is worth. -/
noncomputable def Try.pinned : Pinned := { name := "ytppabccedmdajaa", sum := "303c05ab013fba89aa42c457067d84fb4e0a7d507cd92baefc183ebfda4bc2af", checked := Try.checked }
namespace Rows
def none {H : Type} : Left H := { results := [], args := [] }

/-- 'cardinglaw03.Utf16Turned': WHATEVER THE INPUT: true; the input reads as it did. -/
def utf16TurnedSpec : ChangeSpec := { name := "utf16Turned", fn := fun _ => fun
  | [d1, d2] => { results := [.lit (.bool true)], args := [d1, d2] }
  | _ => none }
def utf16TurnedRow : OpenClaim := { program := "ytppabccedmdajaa", sum := "303c05ab013fba89aa42c457067d84fb4e0a7d507cd92baefc183ebfda4bc2af", func := "carding/cardinglaw03.Utf16Turned", spec := "utf16Turned", inPlace := ["internal/abi.NoEscape"], unfollowed := true, recurses := true, apart := false }
def Utf16TurnedSaid : Prop := utf16TurnedRow.holds Try.pinned (OpenSpec.ofChange utf16TurnedSpec)

/-- ITS FALSE NEIGHBOUR: 'it returns false'. Refute it at one input. -/
def utf16TurnedWrong : ChangeSpec := { name := "utf16Turned", fn := fun _ => fun
  | [d1, d2] => { results := [.lit (.bool false)], args := [d1, d2] }
  | _ => none }
def Utf16TurnedWrongFalsely : Prop := utf16TurnedRow.holds Try.pinned (OpenSpec.ofChange utf16TurnedWrong)

/-- 'cardinglaw03.Utf16Joined': WHATEVER THE INPUT: true; the input reads as it did. -/
def utf16JoinedSpec : ChangeSpec := { name := "utf16Joined", fn := fun _ => fun
  | [d1, d2, d3] => { results := [.lit (.bool true)], args := [d1, d2, d3] }
  | _ => none }
def utf16JoinedRow : OpenClaim := { program := "ytppabccedmdajaa", sum := "303c05ab013fba89aa42c457067d84fb4e0a7d507cd92baefc183ebfda4bc2af", func := "carding/cardinglaw03.Utf16Joined", spec := "utf16Joined", inPlace := ["internal/abi.NoEscape"], unfollowed := true, recurses := true, apart := false }
def Utf16JoinedSaid : Prop := utf16JoinedRow.holds Try.pinned (OpenSpec.ofChange utf16JoinedSpec)

/-- ITS FALSE NEIGHBOUR: 'it returns false'. Refute it at one input. -/
def utf16JoinedWrong : ChangeSpec := { name := "utf16Joined", fn := fun _ => fun
  | [d1, d2, d3] => { results := [.lit (.bool false)], args := [d1, d2, d3] }
  | _ => none }
def Utf16JoinedWrongFalsely : Prop := utf16JoinedRow.holds Try.pinned (OpenSpec.ofChange utf16JoinedWrong)

/-- 'cardinglaw03.Utf16Units': WHATEVER THE INPUT: true; the input reads as it did. -/
def utf16UnitsSpec : ChangeSpec := { name := "utf16Units", fn := fun _ => fun
  | [d1, d2] => { results := [.lit (.bool true)], args := [d1, d2] }
  | _ => none }
def utf16UnitsRow : OpenClaim := { program := "ytppabccedmdajaa", sum := "303c05ab013fba89aa42c457067d84fb4e0a7d507cd92baefc183ebfda4bc2af", func := "carding/cardinglaw03.Utf16Units", spec := "utf16Units", inPlace := ["internal/abi.NoEscape"], unfollowed := true, recurses := true, apart := false }
def Utf16UnitsSaid : Prop := utf16UnitsRow.holds Try.pinned (OpenSpec.ofChange utf16UnitsSpec)

/-- ITS FALSE NEIGHBOUR: 'it returns false'. Refute it at one input. -/
def utf16UnitsWrong : ChangeSpec := { name := "utf16Units", fn := fun _ => fun
  | [d1, d2] => { results := [.lit (.bool false)], args := [d1, d2] }
  | _ => none }
def Utf16UnitsWrongFalsely : Prop := utf16UnitsRow.holds Try.pinned (OpenSpec.ofChange utf16UnitsWrong)

/-- 'cardinglaw03.Utf16Tells': WHATEVER THE INPUT: true; the input reads as it did. -/
def utf16TellsSpec : ChangeSpec := { name := "utf16Tells", fn := fun _ => fun
  | [d1, d2, d3] => { results := [.lit (.bool true)], args := [d1, d2, d3] }
  | _ => none }
def utf16TellsRow : OpenClaim := { program := "ytppabccedmdajaa", sum := "303c05ab013fba89aa42c457067d84fb4e0a7d507cd92baefc183ebfda4bc2af", func := "carding/cardinglaw03.Utf16Tells", spec := "utf16Tells", inPlace := ["internal/abi.NoEscape"], unfollowed := true, recurses := true, apart := false }
def Utf16TellsSaid : Prop := utf16TellsRow.holds Try.pinned (OpenSpec.ofChange utf16TellsSpec)

/-- ITS FALSE NEIGHBOUR: 'it returns false'. Refute it at one input. -/
def utf16TellsWrong : ChangeSpec := { name := "utf16Tells", fn := fun _ => fun
  | [d1, d2, d3] => { results := [.lit (.bool false)], args := [d1, d2, d3] }
  | _ => none }
def Utf16TellsWrongFalsely : Prop := utf16TellsRow.holds Try.pinned (OpenSpec.ofChange utf16TellsWrong)

/-- 'cardinglaw03.Utf16Back': WHATEVER THE INPUT: true; the input reads as it did. -/
def utf16BackSpec : ChangeSpec := { name := "utf16Back", fn := fun _ => fun
  | [d1, d2, d3] => { results := [.lit (.bool true)], args := [d1, d2, d3] }
  | _ => none }
def utf16BackRow : OpenClaim := { program := "ytppabccedmdajaa", sum := "303c05ab013fba89aa42c457067d84fb4e0a7d507cd92baefc183ebfda4bc2af", func := "carding/cardinglaw03.Utf16Back", spec := "utf16Back", inPlace := ["internal/abi.NoEscape"], unfollowed := true, recurses := true, apart := false }
def Utf16BackSaid : Prop := utf16BackRow.holds Try.pinned (OpenSpec.ofChange utf16BackSpec)

/-- ITS FALSE NEIGHBOUR: 'it returns false'. Refute it at one input. -/
def utf16BackWrong : ChangeSpec := { name := "utf16Back", fn := fun _ => fun
  | [d1, d2, d3] => { results := [.lit (.bool false)], args := [d1, d2, d3] }
  | _ => none }
def Utf16BackWrongFalsely : Prop := utf16BackRow.holds Try.pinned (OpenSpec.ofChange utf16BackWrong)

/- THE SECOND FORM. 'bulk': how many values and letters a reading holds, each counted each time it is reached (what is shared counts as often as it is met; a slice's spare places count too). A statement '..UptoSaid' is the law's where the arguments, and the package variables that the reading takes, are together of bulk at most 1048576: NARROWER than '..Said'. Prove '..Said' where nothing that the law and all that it calls make is longer than what came in: it says more and counts as full. Else prove '..UptoSaid'. A law counts once. -/
mutual
def uptoBulk {H : Type} : DataW H → Nat
  | .lit (.string bytes) => bytes.length + 1
  | .lit _ => 1
  | .nil => 1
  | .ptr d => uptoBulk d + 1
  | .slice elems spare => uptoBulkAll elems + uptoBulkAll spare + 1
  | .agg parts => uptoBulkAll parts + 1
  | .iface _ d => uptoBulk d + 1
  | .map entries => uptoBulkEntries entries + 1
  | .held _ => 1
def uptoBulkAll {H : Type} : List (DataW H) → Nat
  | [] => 0
  | d :: r => uptoBulk d + uptoBulkAll r
def uptoBulkEntries {H : Type} : List (Lit × DataW H) → Nat
  | [] => 0
  | x :: r => uptoBulkEntry x + uptoBulkEntries r
def uptoBulkEntry {H : Type} : Lit × DataW H → Nat
  | (.string bytes, d) => bytes.length + uptoBulk d + 1
  | (_, d) => uptoBulk d + 1
 end
def uptoSmall : (H : Type) → List (DataW H) → Bool := fun _ ds => decide (uptoBulkAll ds ≤ 1048576)
def OpenSpec.upto (s : _root_.Go.ChangeSpec) : _root_.Go.OpenSpec := { _root_.Go.OpenSpec.ofChange s with cond := some uptoSmall }

/-- 'cardinglaw03.Utf16Turned', WHERE WHAT IT READS IS OF BULK AT MOST 1048576: true; the input reads as it did. -/
def utf16TurnedUptoRow : OpenClaim := { program := "ytppabccedmdajaa", sum := "303c05ab013fba89aa42c457067d84fb4e0a7d507cd92baefc183ebfda4bc2af", func := "carding/cardinglaw03.Utf16Turned", spec := "utf16Turned", inPlace := ["internal/abi.NoEscape"], unfollowed := true, recurses := true, apart := false, narrowed := true }
def Utf16TurnedUptoSaid : Prop := utf16TurnedUptoRow.holds Try.pinned (OpenSpec.upto utf16TurnedSpec)

/-- 'cardinglaw03.Utf16Joined', WHERE WHAT IT READS IS OF BULK AT MOST 1048576: true; the input reads as it did. -/
def utf16JoinedUptoRow : OpenClaim := { program := "ytppabccedmdajaa", sum := "303c05ab013fba89aa42c457067d84fb4e0a7d507cd92baefc183ebfda4bc2af", func := "carding/cardinglaw03.Utf16Joined", spec := "utf16Joined", inPlace := ["internal/abi.NoEscape"], unfollowed := true, recurses := true, apart := false, narrowed := true }
def Utf16JoinedUptoSaid : Prop := utf16JoinedUptoRow.holds Try.pinned (OpenSpec.upto utf16JoinedSpec)

/-- 'cardinglaw03.Utf16Units', WHERE WHAT IT READS IS OF BULK AT MOST 1048576: true; the input reads as it did. -/
def utf16UnitsUptoRow : OpenClaim := { program := "ytppabccedmdajaa", sum := "303c05ab013fba89aa42c457067d84fb4e0a7d507cd92baefc183ebfda4bc2af", func := "carding/cardinglaw03.Utf16Units", spec := "utf16Units", inPlace := ["internal/abi.NoEscape"], unfollowed := true, recurses := true, apart := false, narrowed := true }
def Utf16UnitsUptoSaid : Prop := utf16UnitsUptoRow.holds Try.pinned (OpenSpec.upto utf16UnitsSpec)

/-- 'cardinglaw03.Utf16Tells', WHERE WHAT IT READS IS OF BULK AT MOST 1048576: true; the input reads as it did. -/
def utf16TellsUptoRow : OpenClaim := { program := "ytppabccedmdajaa", sum := "303c05ab013fba89aa42c457067d84fb4e0a7d507cd92baefc183ebfda4bc2af", func := "carding/cardinglaw03.Utf16Tells", spec := "utf16Tells", inPlace := ["internal/abi.NoEscape"], unfollowed := true, recurses := true, apart := false, narrowed := true }
def Utf16TellsUptoSaid : Prop := utf16TellsUptoRow.holds Try.pinned (OpenSpec.upto utf16TellsSpec)

/-- 'cardinglaw03.Utf16Back', WHERE WHAT IT READS IS OF BULK AT MOST 1048576: true; the input reads as it did. -/
def utf16BackUptoRow : OpenClaim := { program := "ytppabccedmdajaa", sum := "303c05ab013fba89aa42c457067d84fb4e0a7d507cd92baefc183ebfda4bc2af", func := "carding/cardinglaw03.Utf16Back", spec := "utf16Back", inPlace := ["internal/abi.NoEscape"], unfollowed := true, recurses := true, apart := false, narrowed := true }
def Utf16BackUptoSaid : Prop := utf16BackUptoRow.holds Try.pinned (OpenSpec.upto utf16BackSpec)

end Rows
end Go.Proofs.Ytppabccedmdajaa
