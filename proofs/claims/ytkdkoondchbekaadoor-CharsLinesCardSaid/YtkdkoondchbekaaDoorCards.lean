/-
  DERIVED. GIVEN WITH THE SEED: THE CARDS: each row of YtkdkoondchbekaaDoorRows.lean that lists a variable, with what it lists TIED to the program's text (the seventh form; the later family's looks); each row that meets fmt, with fmt's text TOLD by the authors' own Lean function (tested against real Go, not proved from fmt's source: count such statements apart). THE CARD IS WHAT COUNTS. Prove the row's statement (the work); the ties are given (YtkdkoondchbekaaDoorTie.lean); close each card by the builder's one call (the guide's Derived/Test/ToyasCard.lean, 'card_holds'). Laid BY PROGRAM, IN A SANDBOX (cutbox-door.mjs). By AI agents, Wed Nov 11 2026. No macro, syntax, notation, axiom, sorry.
-/
import Derived.Test.YtkdkoondchbekaaDoorRows
import GoSem.ClaimSeven
namespace Go.Proofs.YtkdkoondchbekaaDoor
namespace Rows

/-- THE TIED CARD OF 'cardinglaw09.CharsLines'. -/
def charsLinesCard : Claim7 := { stood := { row := charsLinesRow, standIns := [], harness := (true, "02397756c749d70a720dcb9ee3b52b6ec237213730b3b492afa709c88dce4420"), looks := false }, kinds := [], alts := [], laidByText := true, laidKinds := [.data, .pinned], laidTests := true, laidLooks := .later }
def CharsLinesCardSaid : Prop := Claim7.holds Tryd.pinned (.plain (OpenSpec.ofChange charsLinesSpec)) charsLinesCard

/-- THE TIED CARD OF 'cardinglaw09.CharsNames'. -/
def charsNamesCard : Claim7 := { stood := { row := charsNamesRow, standIns := [], harness := (true, "02397756c749d70a720dcb9ee3b52b6ec237213730b3b492afa709c88dce4420"), looks := false }, kinds := [], alts := [], laidByText := true, laidKinds := [.data, .pinned], laidTests := true, laidLooks := .later }
def CharsNamesCardSaid : Prop := Claim7.holds Tryd.pinned (.plain (OpenSpec.ofChange charsNamesSpec)) charsNamesCard

/-- THE TIED CARD OF 'cardinglaw09.CharsCut'. -/
def charsCutCard : Claim7 := { stood := { row := charsCutRow, standIns := [], harness := (true, "02397756c749d70a720dcb9ee3b52b6ec237213730b3b492afa709c88dce4420"), looks := false }, kinds := [], alts := [], laidByText := true, laidKinds := [.data, .pinned], laidTests := true, laidLooks := .later }
def CharsCutCardSaid : Prop := Claim7.holds Tryd.pinned (.plain (OpenSpec.ofChange charsCutSpec)) charsCutCard

/-- THE TIED CARD OF 'cardinglaw09.CharsTell'. -/
def charsTellCard : Claim7 := { stood := { row := charsTellRow, standIns := [], harness := (true, "02397756c749d70a720dcb9ee3b52b6ec237213730b3b492afa709c88dce4420"), looks := false }, kinds := [], alts := [], laidByText := true, laidKinds := [.data, .pinned], laidTests := true, laidLooks := .later }
def CharsTellCardSaid : Prop := Claim7.holds Tryd.pinned (.plain (OpenSpec.ofChange charsTellSpec)) charsTellCard

/-- THE TIED CARD OF 'cardinglaw09.CharsNest'. -/
def charsNestCard : Claim7 := { stood := { row := charsNestRow, standIns := [], harness := (true, "02397756c749d70a720dcb9ee3b52b6ec237213730b3b492afa709c88dce4420"), looks := false }, kinds := [], alts := [], laidByText := true, laidKinds := [.data, .pinned], laidTests := true, laidLooks := .later }
def CharsNestCardSaid : Prop := Claim7.holds Tryd.pinned (.plain (OpenSpec.ofChange charsNestSpec)) charsNestCard

/-- THE TIED CARD OF 'cardinglaw09.CharsTexts'. -/
def charsTextsCard : Claim7 := { stood := { row := charsTextsRow, standIns := [], harness := (true, "02397756c749d70a720dcb9ee3b52b6ec237213730b3b492afa709c88dce4420"), looks := false }, kinds := [], alts := [], laidByText := true, laidKinds := [.data, .pinned], laidTests := true, laidLooks := .later }
def CharsTextsCardSaid : Prop := Claim7.holds Tryd.pinned (.plain (OpenSpec.ofChange charsTextsSpec)) charsTextsCard

/-- THE SECOND FORM's CARD OF 'cardinglaw09.CharsLines'. -/
def charsLinesUptoCard : Claim7 := { stood := { row := charsLinesUptoRow, standIns := [], harness := (true, "02397756c749d70a720dcb9ee3b52b6ec237213730b3b492afa709c88dce4420"), looks := false }, kinds := [], alts := [], laidByText := true, laidKinds := [.data, .pinned], laidTests := true, laidLooks := .later }
def CharsLinesUptoCardSaid : Prop := Claim7.holds Tryd.pinned (.plain (OpenSpec.upto charsLinesSpec)) charsLinesUptoCard

/-- THE SECOND FORM's CARD OF 'cardinglaw09.CharsNames'. -/
def charsNamesUptoCard : Claim7 := { stood := { row := charsNamesUptoRow, standIns := [], harness := (true, "02397756c749d70a720dcb9ee3b52b6ec237213730b3b492afa709c88dce4420"), looks := false }, kinds := [], alts := [], laidByText := true, laidKinds := [.data, .pinned], laidTests := true, laidLooks := .later }
def CharsNamesUptoCardSaid : Prop := Claim7.holds Tryd.pinned (.plain (OpenSpec.upto charsNamesSpec)) charsNamesUptoCard

/-- THE SECOND FORM's CARD OF 'cardinglaw09.CharsCut'. -/
def charsCutUptoCard : Claim7 := { stood := { row := charsCutUptoRow, standIns := [], harness := (true, "02397756c749d70a720dcb9ee3b52b6ec237213730b3b492afa709c88dce4420"), looks := false }, kinds := [], alts := [], laidByText := true, laidKinds := [.data, .pinned], laidTests := true, laidLooks := .later }
def CharsCutUptoCardSaid : Prop := Claim7.holds Tryd.pinned (.plain (OpenSpec.upto charsCutSpec)) charsCutUptoCard

/-- THE SECOND FORM's CARD OF 'cardinglaw09.CharsTell'. -/
def charsTellUptoCard : Claim7 := { stood := { row := charsTellUptoRow, standIns := [], harness := (true, "02397756c749d70a720dcb9ee3b52b6ec237213730b3b492afa709c88dce4420"), looks := false }, kinds := [], alts := [], laidByText := true, laidKinds := [.data, .pinned], laidTests := true, laidLooks := .later }
def CharsTellUptoCardSaid : Prop := Claim7.holds Tryd.pinned (.plain (OpenSpec.upto charsTellSpec)) charsTellUptoCard

/-- THE SECOND FORM's CARD OF 'cardinglaw09.CharsNest'. -/
def charsNestUptoCard : Claim7 := { stood := { row := charsNestUptoRow, standIns := [], harness := (true, "02397756c749d70a720dcb9ee3b52b6ec237213730b3b492afa709c88dce4420"), looks := false }, kinds := [], alts := [], laidByText := true, laidKinds := [.data, .pinned], laidTests := true, laidLooks := .later }
def CharsNestUptoCardSaid : Prop := Claim7.holds Tryd.pinned (.plain (OpenSpec.upto charsNestSpec)) charsNestUptoCard

/-- THE SECOND FORM's CARD OF 'cardinglaw09.CharsTexts'. -/
def charsTextsUptoCard : Claim7 := { stood := { row := charsTextsUptoRow, standIns := [], harness := (true, "02397756c749d70a720dcb9ee3b52b6ec237213730b3b492afa709c88dce4420"), looks := false }, kinds := [], alts := [], laidByText := true, laidKinds := [.data, .pinned], laidTests := true, laidLooks := .later }
def CharsTextsUptoCardSaid : Prop := Claim7.holds Tryd.pinned (.plain (OpenSpec.upto charsTextsSpec)) charsTextsUptoCard
end Rows
end Go.Proofs.YtkdkoondchbekaaDoor
