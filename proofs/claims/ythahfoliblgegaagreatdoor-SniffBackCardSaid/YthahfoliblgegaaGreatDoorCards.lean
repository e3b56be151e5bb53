/-
  DERIVED. GIVEN WITH THE SEED: THE CARDS: each row of YthahfoliblgegaaGreatDoorRows.lean that lists a variable, with what it lists TIED to the program's text (the seventh form; the later family's looks); each row that meets fmt, with fmt's text TOLD by the authors' own Lean function (tested against real Go, not proved from fmt's source: count such statements apart). THE CARD IS WHAT COUNTS. Prove the row's statement (the work); the ties are given (YthahfoliblgegaaGreatDoorTie.lean); close each card by the builder's one call (the guide's Derived/Test/ToyasCard.lean, 'card_holds'). Laid BY PROGRAM, IN A SANDBOX (cutbox-door.mjs). By AI agents, Wed Nov 11 2026. No macro, syntax, notation, axiom, sorry.
-/
import Derived.Test.YthahfoliblgegaaGreatDoorRows
import GoSem.ClaimSeven
namespace Go.Proofs.YthahfoliblgegaaGreatDoor
namespace Rows

/-- THE TIED CARD OF 'cardinglaw08.SniffTells'. -/
def sniffTellsCard : Claim7 := { stood := { row := sniffTellsRow, standIns := [], harness := (true, "ae03d418fb756f3c9d960a969b5bc33a6087e9491a230e3a6c40d37f0bdd4725"), looks := false }, kinds := [], alts := [], laidByText := true, laidKinds := [.data, .listed, .data, .pinned], laidTests := true, laidLooks := .later }
def SniffTellsCardSaid : Prop := Claim7.holds Tryz.pinned (.plain (OpenSpec.ofChange sniffTellsSpec)) sniffTellsCard

/-- THE TIED CARD OF 'cardinglaw08.SniffOrder'. -/
def sniffOrderCard : Claim7 := { stood := { row := sniffOrderRow, standIns := [], harness := (true, "ae03d418fb756f3c9d960a969b5bc33a6087e9491a230e3a6c40d37f0bdd4725"), looks := false }, kinds := [], alts := [], laidByText := true, laidKinds := [.data, .listed, .data, .pinned], laidTests := true, laidLooks := .later }
def SniffOrderCardSaid : Prop := Claim7.holds Tryz.pinned (.plain (OpenSpec.ofChange sniffOrderSpec)) sniffOrderCard

/-- THE TIED CARD OF 'cardinglaw08.SniffCodes'. -/
def sniffCodesCard : Claim7 := { stood := { row := sniffCodesRow, standIns := [], harness := (true, "ae03d418fb756f3c9d960a969b5bc33a6087e9491a230e3a6c40d37f0bdd4725"), looks := false }, kinds := [], alts := [], laidByText := true, laidKinds := [.data, .listed, .data, .pinned], laidTests := true, laidLooks := .later }
def SniffCodesCardSaid : Prop := Claim7.holds Tryz.pinned (.plain (OpenSpec.ofChange sniffCodesSpec)) sniffCodesCard

/-- THE TIED CARD OF 'cardinglaw08.SniffBack'. -/
def sniffBackCard : Claim7 := { stood := { row := sniffBackRow, standIns := [], harness := (true, "ae03d418fb756f3c9d960a969b5bc33a6087e9491a230e3a6c40d37f0bdd4725"), looks := false }, kinds := [], alts := [], laidByText := true, laidKinds := [.data, .listed, .data, .pinned], laidTests := true, laidLooks := .later }
def SniffBackCardSaid : Prop := Claim7.holds Tryz.pinned (.plain (OpenSpec.ofChange sniffBackSpec)) sniffBackCard

/-- THE SECOND FORM's CARD OF 'cardinglaw08.SniffTells'. -/
def sniffTellsUptoCard : Claim7 := { stood := { row := sniffTellsUptoRow, standIns := [], harness := (true, "ae03d418fb756f3c9d960a969b5bc33a6087e9491a230e3a6c40d37f0bdd4725"), looks := false }, kinds := [], alts := [], laidByText := true, laidKinds := [.data, .listed, .data, .pinned], laidTests := true, laidLooks := .later }
def SniffTellsUptoCardSaid : Prop := Claim7.holds Tryz.pinned (.plain (OpenSpec.upto sniffTellsSpec)) sniffTellsUptoCard

/-- THE SECOND FORM's CARD OF 'cardinglaw08.SniffOrder'. -/
def sniffOrderUptoCard : Claim7 := { stood := { row := sniffOrderUptoRow, standIns := [], harness := (true, "ae03d418fb756f3c9d960a969b5bc33a6087e9491a230e3a6c40d37f0bdd4725"), looks := false }, kinds := [], alts := [], laidByText := true, laidKinds := [.data, .listed, .data, .pinned], laidTests := true, laidLooks := .later }
def SniffOrderUptoCardSaid : Prop := Claim7.holds Tryz.pinned (.plain (OpenSpec.upto sniffOrderSpec)) sniffOrderUptoCard

/-- THE SECOND FORM's CARD OF 'cardinglaw08.SniffCodes'. -/
def sniffCodesUptoCard : Claim7 := { stood := { row := sniffCodesUptoRow, standIns := [], harness := (true, "ae03d418fb756f3c9d960a969b5bc33a6087e9491a230e3a6c40d37f0bdd4725"), looks := false }, kinds := [], alts := [], laidByText := true, laidKinds := [.data, .listed, .data, .pinned], laidTests := true, laidLooks := .later }
def SniffCodesUptoCardSaid : Prop := Claim7.holds Tryz.pinned (.plain (OpenSpec.upto sniffCodesSpec)) sniffCodesUptoCard

/-- THE SECOND FORM's CARD OF 'cardinglaw08.SniffBack'. -/
def sniffBackUptoCard : Claim7 := { stood := { row := sniffBackUptoRow, standIns := [], harness := (true, "ae03d418fb756f3c9d960a969b5bc33a6087e9491a230e3a6c40d37f0bdd4725"), looks := false }, kinds := [], alts := [], laidByText := true, laidKinds := [.data, .listed, .data, .pinned], laidTests := true, laidLooks := .later }
def SniffBackUptoCardSaid : Prop := Claim7.holds Tryz.pinned (.plain (OpenSpec.upto sniffBackSpec)) sniffBackUptoCard
end Rows
end Go.Proofs.YthahfoliblgegaaGreatDoor
