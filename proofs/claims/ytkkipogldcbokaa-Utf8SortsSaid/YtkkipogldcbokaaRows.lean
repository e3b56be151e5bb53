/-
  No cell of these rows narrows 'for every input' (looked for: loops, veiled, ifaces, maps, wideKeys, modest, calm, conditions, laid).
  DERIVED. THE GIVEN ROWS OF THIS SEAT. 6 by the template 'for every input the law returns true; each argument reads behind the call as it read before'; 0 by the template 'total and deterministic' (their statements: YtkkipogldcbokaaTotals.lean).
  GIVEN WITH THE SEED: the statements are not yours to turn. If you find one false, say at which input.
  Laid BY PROGRAM, IN A SANDBOX (cutbox-rows.mjs): the forced cells as the released guide's own fill.sh prints them over the translation 66b3cb927d354659… (all of the seat's roots in one cut). By AI agents, Wed Nov 11 2026. No macro, syntax, notation, axiom, sorry.
-/
import Derived.Test.YtkkipogldcbokaaChecked
import GoSem.Claim
import GoSem.ClaimJoined
import GoSem.ClaimMapViews
import Derived.JoinedTies
import Derived.KernelRfl
namespace Go.Proofs.Ytkkipogldcbokaa
/- THE CELL 'sum', in the pinned program and in every row, IS THE sha256 OF THE DUMP (.gsa) THAT YtkkipogldcbokaaProg.lean LOADS. Nothing in Lean hashes anything: it is a label: what it is worth is what the hold of that sum in a sandbox is worth. -/
noncomputable def Try.pinned : Pinned := { name := "ytkkipogldcbokaa", sum := "66b3cb927d354659779edf075b38d0d7c43f33587ed15822f821ef38e2a8180f", checked := Try.checked }
namespace Rows
def none {H : Type} : Left H := { results := [], args := [] }

/-- 'cardinglaw02.Utf8Loose': WHATEVER THE INPUT: true; the input reads as it did. -/
def utf8LooseSpec : ChangeSpec := { name := "utf8Loose", fn := fun _ => fun
  | [d] => { results := [.lit (.bool true)], args := [d] }
  | _ => none }
def utf8LooseRow : OpenClaim := { program := "ytkkipogldcbokaa", sum := "66b3cb927d354659779edf075b38d0d7c43f33587ed15822f821ef38e2a8180f", func := "carding/cardinglaw02.Utf8Loose", spec := "utf8Loose", unfollowed := true, recurses := true, apart := false }
def Utf8LooseSaid : Prop := utf8LooseRow.holds Try.pinned (OpenSpec.ofChange utf8LooseSpec)

/-- ITS FALSE NEIGHBOUR: 'it returns false'. Refute it at one input. -/
def utf8LooseWrong : ChangeSpec := { name := "utf8Loose", fn := fun _ => fun
  | [d] => { results := [.lit (.bool false)], args := [d] }
  | _ => none }
def Utf8LooseWrongFalsely : Prop := utf8LooseRow.holds Try.pinned (OpenSpec.ofChange utf8LooseWrong)

/-- 'cardinglaw02.Utf8Parts': WHATEVER THE INPUT: true; the input reads as it did. -/
def utf8PartsSpec : ChangeSpec := { name := "utf8Parts", fn := fun _ => fun
  | [d1, d2, d3] => { results := [.lit (.bool true)], args := [d1, d2, d3] }
  | _ => none }
def utf8PartsRow : OpenClaim := { program := "ytkkipogldcbokaa", sum := "66b3cb927d354659779edf075b38d0d7c43f33587ed15822f821ef38e2a8180f", func := "carding/cardinglaw02.Utf8Parts", spec := "utf8Parts", unfollowed := true, recurses := true, apart := false }
def Utf8PartsSaid : Prop := utf8PartsRow.holds Try.pinned (OpenSpec.ofChange utf8PartsSpec)

/-- ITS FALSE NEIGHBOUR: 'it returns false'. Refute it at one input. -/
def utf8PartsWrong : ChangeSpec := { name := "utf8Parts", fn := fun _ => fun
  | [d1, d2, d3] => { results := [.lit (.bool false)], args := [d1, d2, d3] }
  | _ => none }
def Utf8PartsWrongFalsely : Prop := utf8PartsRow.holds Try.pinned (OpenSpec.ofChange utf8PartsWrong)

/-- 'cardinglaw02.Utf8Tells': WHATEVER THE INPUT: true; the input reads as it did. -/
def utf8TellsSpec : ChangeSpec := { name := "utf8Tells", fn := fun _ => fun
  | [d1, d2, d3] => { results := [.lit (.bool true)], args := [d1, d2, d3] }
  | _ => none }
def utf8TellsRow : OpenClaim := { program := "ytkkipogldcbokaa", sum := "66b3cb927d354659779edf075b38d0d7c43f33587ed15822f821ef38e2a8180f", func := "carding/cardinglaw02.Utf8Tells", spec := "utf8Tells", unfollowed := true, recurses := true, apart := false }
def Utf8TellsSaid : Prop := utf8TellsRow.holds Try.pinned (OpenSpec.ofChange utf8TellsSpec)

/-- ITS FALSE NEIGHBOUR: 'it returns false'. Refute it at one input. -/
def utf8TellsWrong : ChangeSpec := { name := "utf8Tells", fn := fun _ => fun
  | [d1, d2, d3] => { results := [.lit (.bool false)], args := [d1, d2, d3] }
  | _ => none }
def Utf8TellsWrongFalsely : Prop := utf8TellsRow.holds Try.pinned (OpenSpec.ofChange utf8TellsWrong)

/-- 'cardinglaw02.Utf8Sorts': WHATEVER THE INPUT: true; the input reads as it did. -/
def utf8SortsSpec : ChangeSpec := { name := "utf8Sorts", fn := fun _ => fun
  | [d1, d2] => { results := [.lit (.bool true)], args := [d1, d2] }
  | _ => none }
def utf8SortsRow : OpenClaim := { program := "ytkkipogldcbokaa", sum := "66b3cb927d354659779edf075b38d0d7c43f33587ed15822f821ef38e2a8180f", func := "carding/cardinglaw02.Utf8Sorts", spec := "utf8Sorts", unfollowed := true, recurses := true, apart := false }
def Utf8SortsSaid : Prop := utf8SortsRow.holds Try.pinned (OpenSpec.ofChange utf8SortsSpec)

/-- ITS FALSE NEIGHBOUR: 'it returns false'. Refute it at one input. -/
def utf8SortsWrong : ChangeSpec := { name := "utf8Sorts", fn := fun _ => fun
  | [d1, d2] => { results := [.lit (.bool false)], args := [d1, d2] }
  | _ => none }
def Utf8SortsWrongFalsely : Prop := utf8SortsRow.holds Try.pinned (OpenSpec.ofChange utf8SortsWrong)

/-- 'cardinglaw02.Utf8Scalars': WHATEVER THE INPUT: true; the input reads as it did. -/
def utf8ScalarsSpec : ChangeSpec := { name := "utf8Scalars", fn := fun _ => fun
  | [d1, d2] => { results := [.lit (.bool true)], args := [d1, d2] }
  | _ => none }
def utf8ScalarsRow : OpenClaim := { program := "ytkkipogldcbokaa", sum := "66b3cb927d354659779edf075b38d0d7c43f33587ed15822f821ef38e2a8180f", func := "carding/cardinglaw02.Utf8Scalars", spec := "utf8Scalars", unfollowed := true, recurses := true, apart := false }
def Utf8ScalarsSaid : Prop := utf8ScalarsRow.holds Try.pinned (OpenSpec.ofChange utf8ScalarsSpec)

/-- ITS FALSE NEIGHBOUR: 'it returns false'. Refute it at one input. -/
def utf8ScalarsWrong : ChangeSpec := { name := "utf8Scalars", fn := fun _ => fun
  | [d1, d2] => { results := [.lit (.bool false)], args := [d1, d2] }
  | _ => none }
def Utf8ScalarsWrongFalsely : Prop := utf8ScalarsRow.holds Try.pinned (OpenSpec.ofChange utf8ScalarsWrong)

/-- 'cardinglaw02.Utf8Back': WHATEVER THE INPUT: true; the input reads as it did. -/
def utf8BackSpec : ChangeSpec := { name := "utf8Back", fn := fun _ => fun
  | [d1, d2] => { results := [.lit (.bool true)], args := [d1, d2] }
  | _ => none }
def utf8BackRow : OpenClaim := { program := "ytkkipogldcbokaa", sum := "66b3cb927d354659779edf075b38d0d7c43f33587ed15822f821ef38e2a8180f", func := "carding/cardinglaw02.Utf8Back", spec := "utf8Back", unfollowed := true, recurses := true, apart := false }
def Utf8BackSaid : Prop := utf8BackRow.holds Try.pinned (OpenSpec.ofChange utf8BackSpec)

/-- ITS FALSE NEIGHBOUR: 'it returns false'. Refute it at one input. -/
def utf8BackWrong : ChangeSpec := { name := "utf8Back", fn := fun _ => fun
  | [d1, d2] => { results := [.lit (.bool false)], args := [d1, d2] }
  | _ => none }
def Utf8BackWrongFalsely : Prop := utf8BackRow.holds Try.pinned (OpenSpec.ofChange utf8BackWrong)

/- THE SECOND FORM. 'bulk': how many values and letters a reading holds, each counted each time it is reached (what is shared counts as often as it is met; a slice's spare places count too). A statement '..UptoSaid' is the law's where the arguments, and the package variables that the reading takes, are together of bulk at most 1048576: NARROWER than '..Said'. Prove '..Said' where nothing that the law and all that it calls make is longer than what came in: it says more and counts as full. Else prove '..UptoSaid'. A law counts once. -/
mutual
def uptoBulk {H : Type} : DataW H → Nat
  | .lit (.string bytes) => bytes.length + 1
  | .lit _ => 1
  | .nil => 1
  | .ptr d => uptoBulk d + 1
  | .slice elems spare => uptoBulkAll elems + uptoBulkAll spare + 1
  | .agg parts => uptoBulkAll parts + 1
  | .iface _ d => uptoBulk d + 1
  | .map entries => uptoBulkEntries entries + 1
  | .held _ => 1
def uptoBulkAll {H : Type} : List (DataW H) → Nat
  | [] => 0
  | d :: r => uptoBulk d + uptoBulkAll r
def uptoBulkEntries {H : Type} : List (Lit × DataW H) → Nat
  | [] => 0
  | x :: r => uptoBulkEntry x + uptoBulkEntries r
def uptoBulkEntry {H : Type} : Lit × DataW H → Nat
  | (.string bytes, d) => bytes.length + uptoBulk d + 1
  | (_, d) => uptoBulk d + 1
 end
def uptoSmall : (H : Type) → List (DataW H) → Bool := fun _ ds => decide (uptoBulkAll ds ≤ 1048576)
def OpenSpec.upto (s : _root_.Go.ChangeSpec) : _root_.Go.OpenSpec := { _root_.Go.OpenSpec.ofChange s with cond := some uptoSmall }

/-- 'cardinglaw02.Utf8Loose', WHERE WHAT IT READS IS OF BULK AT MOST 1048576: true; the input reads as it did. -/
def utf8LooseUptoRow : OpenClaim := { program := "ytkkipogldcbokaa", sum := "66b3cb927d354659779edf075b38d0d7c43f33587ed15822f821ef38e2a8180f", func := "carding/cardinglaw02.Utf8Loose", spec := "utf8Loose", unfollowed := true, recurses := true, apart := false, narrowed := true }
def Utf8LooseUptoSaid : Prop := utf8LooseUptoRow.holds Try.pinned (OpenSpec.upto utf8LooseSpec)

/-- 'cardinglaw02.Utf8Parts', WHERE WHAT IT READS IS OF BULK AT MOST 1048576: true; the input reads as it did. -/
def utf8PartsUptoRow : OpenClaim := { program := "ytkkipogldcbokaa", sum := "66b3cb927d354659779edf075b38d0d7c43f33587ed15822f821ef38e2a8180f", func := "carding/cardinglaw02.Utf8Parts", spec := "utf8Parts", unfollowed := true, recurses := true, apart := false, narrowed := true }
def Utf8PartsUptoSaid : Prop := utf8PartsUptoRow.holds Try.pinned (OpenSpec.upto utf8PartsSpec)

/-- 'cardinglaw02.Utf8Tells', WHERE WHAT IT READS IS OF BULK AT MOST 1048576: true; the input reads as it did. -/
def utf8TellsUptoRow : OpenClaim := { program := "ytkkipogldcbokaa", sum := "66b3cb927d354659779edf075b38d0d7c43f33587ed15822f821ef38e2a8180f", func := "carding/cardinglaw02.Utf8Tells", spec := "utf8Tells", unfollowed := true, recurses := true, apart := false, narrowed := true }
def Utf8TellsUptoSaid : Prop := utf8TellsUptoRow.holds Try.pinned (OpenSpec.upto utf8TellsSpec)

/-- 'cardinglaw02.Utf8Sorts', WHERE WHAT IT READS IS OF BULK AT MOST 1048576: true; the input reads as it did. -/
def utf8SortsUptoRow : OpenClaim := { program := "ytkkipogldcbokaa", sum := "66b3cb927d354659779edf075b38d0d7c43f33587ed15822f821ef38e2a8180f", func := "carding/cardinglaw02.Utf8Sorts", spec := "utf8Sorts", unfollowed := true, recurses := true, apart := false, narrowed := true }
def Utf8SortsUptoSaid : Prop := utf8SortsUptoRow.holds Try.pinned (OpenSpec.upto utf8SortsSpec)

/-- 'cardinglaw02.Utf8Scalars', WHERE WHAT IT READS IS OF BULK AT MOST 1048576: true; the input reads as it did. -/
def utf8ScalarsUptoRow : OpenClaim := { program := "ytkkipogldcbokaa", sum := "66b3cb927d354659779edf075b38d0d7c43f33587ed15822f821ef38e2a8180f", func := "carding/cardinglaw02.Utf8Scalars", spec := "utf8Scalars", unfollowed := true, recurses := true, apart := false, narrowed := true }
def Utf8ScalarsUptoSaid : Prop := utf8ScalarsUptoRow.holds Try.pinned (OpenSpec.upto utf8ScalarsSpec)

/-- 'cardinglaw02.Utf8Back', WHERE WHAT IT READS IS OF BULK AT MOST 1048576: true; the input reads as it did. -/
def utf8BackUptoRow : OpenClaim := { program := "ytkkipogldcbokaa", sum := "66b3cb927d354659779edf075b38d0d7c43f33587ed15822f821ef38e2a8180f", func := "carding/cardinglaw02.Utf8Back", spec := "utf8Back", unfollowed := true, recurses := true, apart := false, narrowed := true }
def Utf8BackUptoSaid : Prop := utf8BackUptoRow.holds Try.pinned (OpenSpec.upto utf8BackSpec)

end Rows
end Go.Proofs.Ytkkipogldcbokaa
