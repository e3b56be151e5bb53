/-
  DERIVED. GIVEN WITH THE SEED: THE CARDS: each row of YtaheooedcjjckaaDoorRows.lean that lists a variable, with what it lists TIED to the program's text (the seventh form; the later family's looks); each row that meets fmt, with fmt's text TOLD by the authors' own Lean function (tested against real Go, not proved from fmt's source: count such statements apart). THE CARD IS WHAT COUNTS. Prove the row's statement (the work); the ties are given (YtaheooedcjjckaaDoorTie.lean); close each card by the builder's one call (the guide's Derived/Test/ToyasCard.lean, 'card_holds'). Laid BY PROGRAM, IN A SANDBOX (cutbox-door.mjs). By AI agents, Wed Nov 11 2026. No macro, syntax, notation, axiom, sorry.
-/
import Derived.Test.YtaheooedcjjckaaDoorRows
import GoSem.ClaimSeven
namespace Go.Proofs.YtaheooedcjjckaaDoor
namespace Rows

/-- THE TIED CARD OF 'cardinglaw05.LabelTells'. -/
def labelTellsCard : Claim7 := { stood := { row := labelTellsRow, standIns := [], harness := (true, "a7444df6f0fe3e43619c3f5296d42717b1f327e1bc0a5b55b7d1cf6a5802049a"), looks := false }, kinds := [], alts := [], laidByText := true, laidKinds := [.listed, .data], laidTests := true, laidLooks := .later }
def LabelTellsCardSaid : Prop := Claim7.holds Tryd.pinned (.plain (OpenSpec.ofChange labelTellsSpec)) labelTellsCard

/-- THE TIED CARD OF 'cardinglaw05.LabelWritten'. -/
def labelWrittenCard : Claim7 := { stood := { row := labelWrittenRow, standIns := [], harness := (true, "a7444df6f0fe3e43619c3f5296d42717b1f327e1bc0a5b55b7d1cf6a5802049a"), looks := false }, kinds := [], alts := [], laidByText := true, laidKinds := [.listed, .data], laidTests := true, laidLooks := .later }
def LabelWrittenCardSaid : Prop := Claim7.holds Tryd.pinned (.plain (OpenSpec.ofChange labelWrittenSpec)) labelWrittenCard

/-- THE TIED CARD OF 'cardinglaw05.LabelOnce'. -/
def labelOnceCard : Claim7 := { stood := { row := labelOnceRow, standIns := [], harness := (true, "a7444df6f0fe3e43619c3f5296d42717b1f327e1bc0a5b55b7d1cf6a5802049a"), looks := false }, kinds := [], alts := [], laidByText := true, laidKinds := [.listed, .data], laidTests := true, laidLooks := .later }
def LabelOnceCardSaid : Prop := Claim7.holds Tryd.pinned (.plain (OpenSpec.ofChange labelOnceSpec)) labelOnceCard

/-- THE TIED CARD OF 'cardinglaw05.LabelTrim'. -/
def labelTrimCard : Claim7 := { stood := { row := labelTrimRow, standIns := [], harness := (true, "a7444df6f0fe3e43619c3f5296d42717b1f327e1bc0a5b55b7d1cf6a5802049a"), looks := false }, kinds := [], alts := [], laidByText := true, laidKinds := [.listed, .data], laidTests := true, laidLooks := .later }
def LabelTrimCardSaid : Prop := Claim7.holds Tryd.pinned (.plain (OpenSpec.ofChange labelTrimSpec)) labelTrimCard

/-- THE SECOND FORM's CARD OF 'cardinglaw05.LabelTells'. -/
def labelTellsUptoCard : Claim7 := { stood := { row := labelTellsUptoRow, standIns := [], harness := (true, "a7444df6f0fe3e43619c3f5296d42717b1f327e1bc0a5b55b7d1cf6a5802049a"), looks := false }, kinds := [], alts := [], laidByText := true, laidKinds := [.listed, .data], laidTests := true, laidLooks := .later }
def LabelTellsUptoCardSaid : Prop := Claim7.holds Tryd.pinned (.plain (OpenSpec.upto labelTellsSpec)) labelTellsUptoCard

/-- THE SECOND FORM's CARD OF 'cardinglaw05.LabelWritten'. -/
def labelWrittenUptoCard : Claim7 := { stood := { row := labelWrittenUptoRow, standIns := [], harness := (true, "a7444df6f0fe3e43619c3f5296d42717b1f327e1bc0a5b55b7d1cf6a5802049a"), looks := false }, kinds := [], alts := [], laidByText := true, laidKinds := [.listed, .data], laidTests := true, laidLooks := .later }
def LabelWrittenUptoCardSaid : Prop := Claim7.holds Tryd.pinned (.plain (OpenSpec.upto labelWrittenSpec)) labelWrittenUptoCard

/-- THE SECOND FORM's CARD OF 'cardinglaw05.LabelOnce'. -/
def labelOnceUptoCard : Claim7 := { stood := { row := labelOnceUptoRow, standIns := [], harness := (true, "a7444df6f0fe3e43619c3f5296d42717b1f327e1bc0a5b55b7d1cf6a5802049a"), looks := false }, kinds := [], alts := [], laidByText := true, laidKinds := [.listed, .data], laidTests := true, laidLooks := .later }
def LabelOnceUptoCardSaid : Prop := Claim7.holds Tryd.pinned (.plain (OpenSpec.upto labelOnceSpec)) labelOnceUptoCard

/-- THE SECOND FORM's CARD OF 'cardinglaw05.LabelTrim'. -/
def labelTrimUptoCard : Claim7 := { stood := { row := labelTrimUptoRow, standIns := [], harness := (true, "a7444df6f0fe3e43619c3f5296d42717b1f327e1bc0a5b55b7d1cf6a5802049a"), looks := false }, kinds := [], alts := [], laidByText := true, laidKinds := [.listed, .data], laidTests := true, laidLooks := .later }
def LabelTrimUptoCardSaid : Prop := Claim7.holds Tryd.pinned (.plain (OpenSpec.upto labelTrimSpec)) labelTrimUptoCard
end Rows
end Go.Proofs.YtaheooedcjjckaaDoor
