/-
  No cell of these rows narrows 'for every input' (looked for: loops, veiled, ifaces, maps, wideKeys, modest, calm, conditions, laid).
  DERIVED. THE GIVEN ROWS OF THIS SEAT. 4 by the template 'for every input the law returns true; each argument reads behind the call as it read before'; 0 by the template 'total and deterministic' (their statements: YtaheooedcjjckaaTotals.lean).
  GIVEN WITH THE SEED: the statements are not yours to turn. If you find one false, say at which input.
  Laid BY PROGRAM, IN A SANDBOX (cutbox-rows.mjs): the forced cells as the released guide's own fill.sh prints them over the translation 324a80c64b7d2755… (all of the seat's roots in one cut). By AI agents, Wed Nov 11 2026. No macro, syntax, notation, axiom, sorry.
-/
import Derived.Test.YtaheooedcjjckaaChecked
import GoSem.Claim
import GoSem.ClaimJoined
import GoSem.ClaimMapViews
import Derived.JoinedTies
import Derived.KernelRfl
namespace Go.Proofs.Ytaheooedcjjckaa
/- THE CELL 'sum', in the pinned program and in every row, IS THE sha256 OF THE DUMP (.gsa) THAT YtaheooedcjjckaaProg.lean LOADS. Nothing in Lean hashes anything: it is a label: what it is worth is what the hold of that sum in a sandbox is worth. -/
noncomputable def Try.pinned : Pinned := { name := "ytaheooedcjjckaa", sum := "324a80c64b7d2755be5badcf8ce7c9cb4325e02265488027b478d85ce1944282", checked := Try.checked }
namespace Rows
def none {H : Type} : Left H := { results := [], args := [] }

/-- 'cardinglaw07.DeclareTells': WHATEVER THE INPUT: true; the input reads as it did. -/
def declareTellsSpec : ChangeSpec := { name := "declareTells", fn := fun _ => fun
  | [d] => { results := [.lit (.bool true)], args := [d] }
  | _ => none }
def declareTellsRow : OpenClaim := { program := "ytaheooedcjjckaa", sum := "324a80c64b7d2755be5badcf8ce7c9cb4325e02265488027b478d85ce1944282", func := "carding/cardinglaw07.DeclareTells", spec := "declareTells", inPlace := ["internal/bytealg.IndexByteString", "internal/bytealg.IndexString"], unfollowed := true, recurses := true, named := ["internal/bytealg.MaxLen"], apart := false }
def DeclareTellsSaid : Prop := declareTellsRow.holds Try.pinned (OpenSpec.ofChange declareTellsSpec)

/-- ITS FALSE NEIGHBOUR: 'it returns false'. Refute it at one input. -/
def declareTellsWrong : ChangeSpec := { name := "declareTells", fn := fun _ => fun
  | [d] => { results := [.lit (.bool false)], args := [d] }
  | _ => none }
def DeclareTellsWrongFalsely : Prop := declareTellsRow.holds Try.pinned (OpenSpec.ofChange declareTellsWrong)

/-- 'cardinglaw07.DeclareFirst': WHATEVER THE INPUT: true; the input reads as it did. -/
def declareFirstSpec : ChangeSpec := { name := "declareFirst", fn := fun _ => fun
  | [d1, d2] => { results := [.lit (.bool true)], args := [d1, d2] }
  | _ => none }
def declareFirstRow : OpenClaim := { program := "ytaheooedcjjckaa", sum := "324a80c64b7d2755be5badcf8ce7c9cb4325e02265488027b478d85ce1944282", func := "carding/cardinglaw07.DeclareFirst", spec := "declareFirst", inPlace := ["internal/bytealg.IndexByteString", "internal/bytealg.IndexString"], unfollowed := true, recurses := true, named := ["internal/bytealg.MaxLen"], apart := false }
def DeclareFirstSaid : Prop := declareFirstRow.holds Try.pinned (OpenSpec.ofChange declareFirstSpec)

/-- ITS FALSE NEIGHBOUR: 'it returns false'. Refute it at one input. -/
def declareFirstWrong : ChangeSpec := { name := "declareFirst", fn := fun _ => fun
  | [d1, d2] => { results := [.lit (.bool false)], args := [d1, d2] }
  | _ => none }
def DeclareFirstWrongFalsely : Prop := declareFirstRow.holds Try.pinned (OpenSpec.ofChange declareFirstWrong)

/-- 'cardinglaw07.DeclareMade': WHATEVER THE INPUT: true; the input reads as it did. -/
def declareMadeSpec : ChangeSpec := { name := "declareMade", fn := fun _ => fun
  | [d1, d2, d3] => { results := [.lit (.bool true)], args := [d1, d2, d3] }
  | _ => none }
def declareMadeRow : OpenClaim := { program := "ytaheooedcjjckaa", sum := "324a80c64b7d2755be5badcf8ce7c9cb4325e02265488027b478d85ce1944282", func := "carding/cardinglaw07.DeclareMade", spec := "declareMade", inPlace := ["internal/bytealg.IndexByteString", "internal/bytealg.IndexString"], unfollowed := true, recurses := true, named := ["internal/bytealg.MaxLen"], apart := false }
def DeclareMadeSaid : Prop := declareMadeRow.holds Try.pinned (OpenSpec.ofChange declareMadeSpec)

/-- ITS FALSE NEIGHBOUR: 'it returns false'. Refute it at one input. -/
def declareMadeWrong : ChangeSpec := { name := "declareMade", fn := fun _ => fun
  | [d1, d2, d3] => { results := [.lit (.bool false)], args := [d1, d2, d3] }
  | _ => none }
def DeclareMadeWrongFalsely : Prop := declareMadeRow.holds Try.pinned (OpenSpec.ofChange declareMadeWrong)

/-- 'cardinglaw07.DeclareApart': WHATEVER THE INPUT: true; the input reads as it did. -/
def declareApartSpec : ChangeSpec := { name := "declareApart", fn := fun _ => fun
  | [d] => { results := [.lit (.bool true)], args := [d] }
  | _ => none }
def declareApartRow : OpenClaim := { program := "ytaheooedcjjckaa", sum := "324a80c64b7d2755be5badcf8ce7c9cb4325e02265488027b478d85ce1944282", func := "carding/cardinglaw07.DeclareApart", spec := "declareApart", inPlace := ["internal/bytealg.IndexByteString", "internal/bytealg.IndexString"], unfollowed := true, recurses := true, named := ["internal/bytealg.MaxLen"], apart := false }
def DeclareApartSaid : Prop := declareApartRow.holds Try.pinned (OpenSpec.ofChange declareApartSpec)

/-- ITS FALSE NEIGHBOUR: 'it returns false'. Refute it at one input. -/
def declareApartWrong : ChangeSpec := { name := "declareApart", fn := fun _ => fun
  | [d] => { results := [.lit (.bool false)], args := [d] }
  | _ => none }
def DeclareApartWrongFalsely : Prop := declareApartRow.holds Try.pinned (OpenSpec.ofChange declareApartWrong)

/- THE SECOND FORM. 'bulk': how many values and letters a reading holds, each counted each time it is reached (what is shared counts as often as it is met; a slice's spare places count too). A statement '..UptoSaid' is the law's where the arguments, and the package variables that the reading takes, are together of bulk at most 1048576: NARROWER than '..Said'. Prove '..Said' where nothing that the law and all that it calls make is longer than what came in: it says more and counts as full. Else prove '..UptoSaid'. A law counts once. -/
mutual
def uptoBulk {H : Type} : DataW H → Nat
  | .lit (.string bytes) => bytes.length + 1
  | .lit _ => 1
  | .nil => 1
  | .ptr d => uptoBulk d + 1
  | .slice elems spare => uptoBulkAll elems + uptoBulkAll spare + 1
  | .agg parts => uptoBulkAll parts + 1
  | .iface _ d => uptoBulk d + 1
  | .map entries => uptoBulkEntries entries + 1
  | .held _ => 1
def uptoBulkAll {H : Type} : List (DataW H) → Nat
  | [] => 0
  | d :: r => uptoBulk d + uptoBulkAll r
def uptoBulkEntries {H : Type} : List (Lit × DataW H) → Nat
  | [] => 0
  | x :: r => uptoBulkEntry x + uptoBulkEntries r
def uptoBulkEntry {H : Type} : Lit × DataW H → Nat
  | (.string bytes, d) => bytes.length + uptoBulk d + 1
  | (_, d) => uptoBulk d + 1
 end
def uptoSmall : (H : Type) → List (DataW H) → Bool := fun _ ds => decide (uptoBulkAll ds ≤ 1048576)
def OpenSpec.upto (s : _root_.Go.ChangeSpec) : _root_.Go.OpenSpec := { _root_.Go.OpenSpec.ofChange s with cond := some uptoSmall }

/-- 'cardinglaw07.DeclareTells', WHERE WHAT IT READS IS OF BULK AT MOST 1048576: true; the input reads as it did. -/
def declareTellsUptoRow : OpenClaim := { program := "ytaheooedcjjckaa", sum := "324a80c64b7d2755be5badcf8ce7c9cb4325e02265488027b478d85ce1944282", func := "carding/cardinglaw07.DeclareTells", spec := "declareTells", inPlace := ["internal/bytealg.IndexByteString", "internal/bytealg.IndexString"], unfollowed := true, recurses := true, named := ["internal/bytealg.MaxLen"], apart := false, narrowed := true }
def DeclareTellsUptoSaid : Prop := declareTellsUptoRow.holds Try.pinned (OpenSpec.upto declareTellsSpec)

/-- 'cardinglaw07.DeclareFirst', WHERE WHAT IT READS IS OF BULK AT MOST 1048576: true; the input reads as it did. -/
def declareFirstUptoRow : OpenClaim := { program := "ytaheooedcjjckaa", sum := "324a80c64b7d2755be5badcf8ce7c9cb4325e02265488027b478d85ce1944282", func := "carding/cardinglaw07.DeclareFirst", spec := "declareFirst", inPlace := ["internal/bytealg.IndexByteString", "internal/bytealg.IndexString"], unfollowed := true, recurses := true, named := ["internal/bytealg.MaxLen"], apart := false, narrowed := true }
def DeclareFirstUptoSaid : Prop := declareFirstUptoRow.holds Try.pinned (OpenSpec.upto declareFirstSpec)

/-- 'cardinglaw07.DeclareMade', WHERE WHAT IT READS IS OF BULK AT MOST 1048576: true; the input reads as it did. -/
def declareMadeUptoRow : OpenClaim := { program := "ytaheooedcjjckaa", sum := "324a80c64b7d2755be5badcf8ce7c9cb4325e02265488027b478d85ce1944282", func := "carding/cardinglaw07.DeclareMade", spec := "declareMade", inPlace := ["internal/bytealg.IndexByteString", "internal/bytealg.IndexString"], unfollowed := true, recurses := true, named := ["internal/bytealg.MaxLen"], apart := false, narrowed := true }
def DeclareMadeUptoSaid : Prop := declareMadeUptoRow.holds Try.pinned (OpenSpec.upto declareMadeSpec)

/-- 'cardinglaw07.DeclareApart', WHERE WHAT IT READS IS OF BULK AT MOST 1048576: true; the input reads as it did. -/
def declareApartUptoRow : OpenClaim := { program := "ytaheooedcjjckaa", sum := "324a80c64b7d2755be5badcf8ce7c9cb4325e02265488027b478d85ce1944282", func := "carding/cardinglaw07.DeclareApart", spec := "declareApart", inPlace := ["internal/bytealg.IndexByteString", "internal/bytealg.IndexString"], unfollowed := true, recurses := true, named := ["internal/bytealg.MaxLen"], apart := false, narrowed := true }
def DeclareApartUptoSaid : Prop := declareApartUptoRow.holds Try.pinned (OpenSpec.upto declareApartSpec)

end Rows
end Go.Proofs.Ytaheooedcjjckaa
