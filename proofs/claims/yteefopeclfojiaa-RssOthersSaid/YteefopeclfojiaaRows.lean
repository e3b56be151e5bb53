/-
  No cell of these rows narrows 'for every input' (looked for: loops, veiled, ifaces, maps, wideKeys, modest, calm, conditions, laid).
  DERIVED. THE GIVEN ROWS OF THIS SEAT. 12 by the template 'for every input the law returns true; each argument reads behind the call as it read before'; 0 by the template 'total and deterministic' (their statements: YteefopeclfojiaaTotals.lean).
  GIVEN WITH THE SEED: the statements are not yours to turn. If you find one false, say at which input.
  Laid BY PROGRAM, IN A SANDBOX (cutbox-rows.mjs): the forced cells as the released guide's own fill.sh prints them over the translation 13a3364c6dde3f2d… (all of the seat's roots in one cut). By AI agents, Wed Nov 11 2026. No macro, syntax, notation, axiom, sorry.
-/
import Derived.Test.YteefopeclfojiaaChecked
import GoSem.Claim
import GoSem.ClaimJoined
import GoSem.ClaimMapViews
import Derived.JoinedTies
import Derived.KernelRfl
namespace Go.Proofs.Yteefopeclfojiaa
/- THE CELL 'sum', in the pinned program and in every row, IS THE sha256 OF THE DUMP (.gsa) THAT YteefopeclfojiaaProg.lean LOADS. Nothing in Lean hashes anything: it is a label: what it is worth is what the hold of that sum in a sandbox is worth. -/
noncomputable def Try.pinned : Pinned := { name := "yteefopeclfojiaa", sum := "13a3364c6dde3f2d31885a6cb2c9f171610e1cc692b9f040a55549a370abb3f9", checked := Try.checked }
namespace Rows
def none {H : Type} : Left H := { results := [], args := [] }

/-- 'cardinglaw16.EventsWrap': WHATEVER THE INPUT: true; the input reads as it did. -/
def eventsWrapSpec : ChangeSpec := { name := "eventsWrap", fn := fun _ => fun
  | [d1, d2] => { results := [.lit (.bool true)], args := [d1, d2] }
  | _ => none }
def eventsWrapRow : OpenClaim := { program := "yteefopeclfojiaa", sum := "13a3364c6dde3f2d31885a6cb2c9f171610e1cc692b9f040a55549a370abb3f9", func := "carding/cardinglaw16.EventsWrap", spec := "eventsWrap", inPlace := ["internal/abi.NoEscape"], unfollowed := true, recurses := true, plainKeys := false, apart := false }
def EventsWrapSaid : Prop := eventsWrapRow.holds Try.pinned (OpenSpec.ofChange eventsWrapSpec)

/-- ITS FALSE NEIGHBOUR: 'it returns false'. Refute it at one input. -/
def eventsWrapWrong : ChangeSpec := { name := "eventsWrap", fn := fun _ => fun
  | [d1, d2] => { results := [.lit (.bool false)], args := [d1, d2] }
  | _ => none }
def EventsWrapWrongFalsely : Prop := eventsWrapRow.holds Try.pinned (OpenSpec.ofChange eventsWrapWrong)

/-- 'cardinglaw16.EventsNest': WHATEVER THE INPUT: true; the input reads as it did. -/
def eventsNestSpec : ChangeSpec := { name := "eventsNest", fn := fun _ => fun
  | [d1, d2] => { results := [.lit (.bool true)], args := [d1, d2] }
  | _ => none }
def eventsNestRow : OpenClaim := { program := "yteefopeclfojiaa", sum := "13a3364c6dde3f2d31885a6cb2c9f171610e1cc692b9f040a55549a370abb3f9", func := "carding/cardinglaw16.EventsNest", spec := "eventsNest", inPlace := ["internal/abi.NoEscape"], unfollowed := true, recurses := true, plainKeys := false, apart := false }
def EventsNestSaid : Prop := eventsNestRow.holds Try.pinned (OpenSpec.ofChange eventsNestSpec)

/-- ITS FALSE NEIGHBOUR: 'it returns false'. Refute it at one input. -/
def eventsNestWrong : ChangeSpec := { name := "eventsNest", fn := fun _ => fun
  | [d1, d2] => { results := [.lit (.bool false)], args := [d1, d2] }
  | _ => none }
def EventsNestWrongFalsely : Prop := eventsNestRow.holds Try.pinned (OpenSpec.ofChange eventsNestWrong)

/-- 'cardinglaw16.EventsTell': WHATEVER THE INPUT: true; the input reads as it did. -/
def eventsTellSpec : ChangeSpec := { name := "eventsTell", fn := fun _ => fun
  | [d1, d2, d3] => { results := [.lit (.bool true)], args := [d1, d2, d3] }
  | _ => none }
def eventsTellRow : OpenClaim := { program := "yteefopeclfojiaa", sum := "13a3364c6dde3f2d31885a6cb2c9f171610e1cc692b9f040a55549a370abb3f9", func := "carding/cardinglaw16.EventsTell", spec := "eventsTell", inPlace := ["internal/abi.NoEscape"], unfollowed := true, recurses := true, plainKeys := false, apart := false }
def EventsTellSaid : Prop := eventsTellRow.holds Try.pinned (OpenSpec.ofChange eventsTellSpec)

/-- ITS FALSE NEIGHBOUR: 'it returns false'. Refute it at one input. -/
def eventsTellWrong : ChangeSpec := { name := "eventsTell", fn := fun _ => fun
  | [d1, d2, d3] => { results := [.lit (.bool false)], args := [d1, d2, d3] }
  | _ => none }
def EventsTellWrongFalsely : Prop := eventsTellRow.holds Try.pinned (OpenSpec.ofChange eventsTellWrong)

/-- 'cardinglaw16.EventsPut': WHATEVER THE INPUT: true; the input reads as it did. -/
def eventsPutSpec : ChangeSpec := { name := "eventsPut", fn := fun _ => fun
  | [d] => { results := [.lit (.bool true)], args := [d] }
  | _ => none }
def eventsPutRow : OpenClaim := { program := "yteefopeclfojiaa", sum := "13a3364c6dde3f2d31885a6cb2c9f171610e1cc692b9f040a55549a370abb3f9", func := "carding/cardinglaw16.EventsPut", spec := "eventsPut", inPlace := ["internal/abi.NoEscape"], unfollowed := true, recurses := true, plainKeys := false, apart := false }
def EventsPutSaid : Prop := eventsPutRow.holds Try.pinned (OpenSpec.ofChange eventsPutSpec)

/-- ITS FALSE NEIGHBOUR: 'it returns false'. Refute it at one input. -/
def eventsPutWrong : ChangeSpec := { name := "eventsPut", fn := fun _ => fun
  | [d] => { results := [.lit (.bool false)], args := [d] }
  | _ => none }
def EventsPutWrongFalsely : Prop := eventsPutRow.holds Try.pinned (OpenSpec.ofChange eventsPutWrong)

/-- 'cardinglaw24.AtomNames': WHATEVER THE INPUT: true; the input reads as it did. -/
def atomNamesSpec : ChangeSpec := { name := "atomNames", fn := fun _ => fun
  | [d] => { results := [.lit (.bool true)], args := [d] }
  | _ => none }
def atomNamesRow : OpenClaim := { program := "yteefopeclfojiaa", sum := "13a3364c6dde3f2d31885a6cb2c9f171610e1cc692b9f040a55549a370abb3f9", func := "carding/cardinglaw24.AtomNames", spec := "atomNames", inPlace := ["internal/abi.NoEscape"], unfollowed := true, recurses := true, plainKeys := false, apart := false }
def AtomNamesSaid : Prop := atomNamesRow.holds Try.pinned (OpenSpec.ofChange atomNamesSpec)

/-- ITS FALSE NEIGHBOUR: 'it returns false'. Refute it at one input. -/
def atomNamesWrong : ChangeSpec := { name := "atomNames", fn := fun _ => fun
  | [d] => { results := [.lit (.bool false)], args := [d] }
  | _ => none }
def AtomNamesWrongFalsely : Prop := atomNamesRow.holds Try.pinned (OpenSpec.ofChange atomNamesWrong)

/-- 'cardinglaw24.AtomItems': WHATEVER THE INPUT: true; the input reads as it did. -/
def atomItemsSpec : ChangeSpec := { name := "atomItems", fn := fun _ => fun
  | [d1, d2, d3, d4] => { results := [.lit (.bool true)], args := [d1, d2, d3, d4] }
  | _ => none }
def atomItemsRow : OpenClaim := { program := "yteefopeclfojiaa", sum := "13a3364c6dde3f2d31885a6cb2c9f171610e1cc692b9f040a55549a370abb3f9", func := "carding/cardinglaw24.AtomItems", spec := "atomItems", inPlace := ["internal/abi.NoEscape"], unfollowed := true, recurses := true, plainKeys := false, apart := false }
def AtomItemsSaid : Prop := atomItemsRow.holds Try.pinned (OpenSpec.ofChange atomItemsSpec)

/-- ITS FALSE NEIGHBOUR: 'it returns false'. Refute it at one input. -/
def atomItemsWrong : ChangeSpec := { name := "atomItems", fn := fun _ => fun
  | [d1, d2, d3, d4] => { results := [.lit (.bool false)], args := [d1, d2, d3, d4] }
  | _ => none }
def AtomItemsWrongFalsely : Prop := atomItemsRow.holds Try.pinned (OpenSpec.ofChange atomItemsWrong)

/-- 'cardinglaw24.AtomEntry': WHATEVER THE INPUT: true; the input reads as it did. -/
def atomEntrySpec : ChangeSpec := { name := "atomEntry", fn := fun _ => fun
  | [d1, d2, d3, d4, d5, d6, d7] => { results := [.lit (.bool true)], args := [d1, d2, d3, d4, d5, d6, d7] }
  | _ => none }
def atomEntryRow : OpenClaim := { program := "yteefopeclfojiaa", sum := "13a3364c6dde3f2d31885a6cb2c9f171610e1cc692b9f040a55549a370abb3f9", func := "carding/cardinglaw24.AtomEntry", spec := "atomEntry", inPlace := ["internal/abi.NoEscape"], unfollowed := true, recurses := true, plainKeys := false, apart := false }
def AtomEntrySaid : Prop := atomEntryRow.holds Try.pinned (OpenSpec.ofChange atomEntrySpec)

/-- ITS FALSE NEIGHBOUR: 'it returns false'. Refute it at one input. -/
def atomEntryWrong : ChangeSpec := { name := "atomEntry", fn := fun _ => fun
  | [d1, d2, d3, d4, d5, d6, d7] => { results := [.lit (.bool false)], args := [d1, d2, d3, d4, d5, d6, d7] }
  | _ => none }
def AtomEntryWrongFalsely : Prop := atomEntryRow.holds Try.pinned (OpenSpec.ofChange atomEntryWrong)

/-- 'cardinglaw24.AtomFinds': WHATEVER THE INPUT: true; the input reads as it did. -/
def atomFindsSpec : ChangeSpec := { name := "atomFinds", fn := fun _ => fun
  | [d1, d2, d3] => { results := [.lit (.bool true)], args := [d1, d2, d3] }
  | _ => none }
def atomFindsRow : OpenClaim := { program := "yteefopeclfojiaa", sum := "13a3364c6dde3f2d31885a6cb2c9f171610e1cc692b9f040a55549a370abb3f9", func := "carding/cardinglaw24.AtomFinds", spec := "atomFinds", inPlace := ["internal/abi.NoEscape"], unfollowed := true, recurses := true, plainKeys := false, apart := false }
def AtomFindsSaid : Prop := atomFindsRow.holds Try.pinned (OpenSpec.ofChange atomFindsSpec)

/-- ITS FALSE NEIGHBOUR: 'it returns false'. Refute it at one input. -/
def atomFindsWrong : ChangeSpec := { name := "atomFinds", fn := fun _ => fun
  | [d1, d2, d3] => { results := [.lit (.bool false)], args := [d1, d2, d3] }
  | _ => none }
def AtomFindsWrongFalsely : Prop := atomFindsRow.holds Try.pinned (OpenSpec.ofChange atomFindsWrong)

/-- 'cardinglaw23.RssTells': WHATEVER THE INPUT: true; the input reads as it did. -/
def rssTellsSpec : ChangeSpec := { name := "rssTells", fn := fun _ => fun
  | [d1, d2, d3] => { results := [.lit (.bool true)], args := [d1, d2, d3] }
  | _ => none }
def rssTellsRow : OpenClaim := { program := "yteefopeclfojiaa", sum := "13a3364c6dde3f2d31885a6cb2c9f171610e1cc692b9f040a55549a370abb3f9", func := "carding/cardinglaw23.RssTells", spec := "rssTells", inPlace := ["internal/abi.NoEscape"], unfollowed := true, recurses := true, plainKeys := false, apart := false }
def RssTellsSaid : Prop := rssTellsRow.holds Try.pinned (OpenSpec.ofChange rssTellsSpec)

/-- ITS FALSE NEIGHBOUR: 'it returns false'. Refute it at one input. -/
def rssTellsWrong : ChangeSpec := { name := "rssTells", fn := fun _ => fun
  | [d1, d2, d3] => { results := [.lit (.bool false)], args := [d1, d2, d3] }
  | _ => none }
def RssTellsWrongFalsely : Prop := rssTellsRow.holds Try.pinned (OpenSpec.ofChange rssTellsWrong)

/-- 'cardinglaw23.RssOthers': WHATEVER THE INPUT: true; the input reads as it did. -/
def rssOthersSpec : ChangeSpec := { name := "rssOthers", fn := fun _ => fun
  | [d1, d2, d3] => { results := [.lit (.bool true)], args := [d1, d2, d3] }
  | _ => none }
def rssOthersRow : OpenClaim := { program := "yteefopeclfojiaa", sum := "13a3364c6dde3f2d31885a6cb2c9f171610e1cc692b9f040a55549a370abb3f9", func := "carding/cardinglaw23.RssOthers", spec := "rssOthers", inPlace := ["internal/abi.NoEscape"], unfollowed := true, recurses := true, plainKeys := false, apart := false }
def RssOthersSaid : Prop := rssOthersRow.holds Try.pinned (OpenSpec.ofChange rssOthersSpec)

/-- ITS FALSE NEIGHBOUR: 'it returns false'. Refute it at one input. -/
def rssOthersWrong : ChangeSpec := { name := "rssOthers", fn := fun _ => fun
  | [d1, d2, d3] => { results := [.lit (.bool false)], args := [d1, d2, d3] }
  | _ => none }
def RssOthersWrongFalsely : Prop := rssOthersRow.holds Try.pinned (OpenSpec.ofChange rssOthersWrong)

/-- 'cardinglaw23.RssItems': WHATEVER THE INPUT: true; the input reads as it did. -/
def rssItemsSpec : ChangeSpec := { name := "rssItems", fn := fun _ => fun
  | [d] => { results := [.lit (.bool true)], args := [d] }
  | _ => none }
def rssItemsRow : OpenClaim := { program := "yteefopeclfojiaa", sum := "13a3364c6dde3f2d31885a6cb2c9f171610e1cc692b9f040a55549a370abb3f9", func := "carding/cardinglaw23.RssItems", spec := "rssItems", inPlace := ["internal/abi.NoEscape"], unfollowed := true, recurses := true, plainKeys := false, apart := false }
def RssItemsSaid : Prop := rssItemsRow.holds Try.pinned (OpenSpec.ofChange rssItemsSpec)

/-- ITS FALSE NEIGHBOUR: 'it returns false'. Refute it at one input. -/
def rssItemsWrong : ChangeSpec := { name := "rssItems", fn := fun _ => fun
  | [d] => { results := [.lit (.bool false)], args := [d] }
  | _ => none }
def RssItemsWrongFalsely : Prop := rssItemsRow.holds Try.pinned (OpenSpec.ofChange rssItemsWrong)

/-- 'cardinglaw23.RssField': WHATEVER THE INPUT: true; the input reads as it did. -/
def rssFieldSpec : ChangeSpec := { name := "rssField", fn := fun _ => fun
  | [d1, d2, d3] => { results := [.lit (.bool true)], args := [d1, d2, d3] }
  | _ => none }
def rssFieldRow : OpenClaim := { program := "yteefopeclfojiaa", sum := "13a3364c6dde3f2d31885a6cb2c9f171610e1cc692b9f040a55549a370abb3f9", func := "carding/cardinglaw23.RssField", spec := "rssField", inPlace := ["internal/abi.NoEscape"], unfollowed := true, recurses := true, plainKeys := false, apart := false }
def RssFieldSaid : Prop := rssFieldRow.holds Try.pinned (OpenSpec.ofChange rssFieldSpec)

/-- ITS FALSE NEIGHBOUR: 'it returns false'. Refute it at one input. -/
def rssFieldWrong : ChangeSpec := { name := "rssField", fn := fun _ => fun
  | [d1, d2, d3] => { results := [.lit (.bool false)], args := [d1, d2, d3] }
  | _ => none }
def RssFieldWrongFalsely : Prop := rssFieldRow.holds Try.pinned (OpenSpec.ofChange rssFieldWrong)

/- THE SECOND FORM. 'bulk': how many values and letters a reading holds, each counted each time it is reached (what is shared counts as often as it is met; a slice's spare places count too). A statement '..UptoSaid' is the law's where the arguments, and the package variables that the reading takes, are together of bulk at most 1048576: NARROWER than '..Said'. Prove '..Said' where nothing that the law and all that it calls make is longer than what came in: it says more and counts as full. Else prove '..UptoSaid'. A law counts once. -/
mutual
def uptoBulk {H : Type} : DataW H → Nat
  | .lit (.string bytes) => bytes.length + 1
  | .lit _ => 1
  | .nil => 1
  | .ptr d => uptoBulk d + 1
  | .slice elems spare => uptoBulkAll elems + uptoBulkAll spare + 1
  | .agg parts => uptoBulkAll parts + 1
  | .iface _ d => uptoBulk d + 1
  | .map entries => uptoBulkEntries entries + 1
  | .held _ => 1
def uptoBulkAll {H : Type} : List (DataW H) → Nat
  | [] => 0
  | d :: r => uptoBulk d + uptoBulkAll r
def uptoBulkEntries {H : Type} : List (Lit × DataW H) → Nat
  | [] => 0
  | x :: r => uptoBulkEntry x + uptoBulkEntries r
def uptoBulkEntry {H : Type} : Lit × DataW H → Nat
  | (.string bytes, d) => bytes.length + uptoBulk d + 1
  | (_, d) => uptoBulk d + 1
 end
def uptoSmall : (H : Type) → List (DataW H) → Bool := fun _ ds => decide (uptoBulkAll ds ≤ 1048576)
def OpenSpec.upto (s : _root_.Go.ChangeSpec) : _root_.Go.OpenSpec := { _root_.Go.OpenSpec.ofChange s with cond := some uptoSmall }

/-- 'cardinglaw16.EventsWrap', WHERE WHAT IT READS IS OF BULK AT MOST 1048576: true; the input reads as it did. -/
def eventsWrapUptoRow : OpenClaim := { program := "yteefopeclfojiaa", sum := "13a3364c6dde3f2d31885a6cb2c9f171610e1cc692b9f040a55549a370abb3f9", func := "carding/cardinglaw16.EventsWrap", spec := "eventsWrap", inPlace := ["internal/abi.NoEscape"], unfollowed := true, recurses := true, plainKeys := false, apart := false, narrowed := true }
def EventsWrapUptoSaid : Prop := eventsWrapUptoRow.holds Try.pinned (OpenSpec.upto eventsWrapSpec)

/-- 'cardinglaw16.EventsNest', WHERE WHAT IT READS IS OF BULK AT MOST 1048576: true; the input reads as it did. -/
def eventsNestUptoRow : OpenClaim := { program := "yteefopeclfojiaa", sum := "13a3364c6dde3f2d31885a6cb2c9f171610e1cc692b9f040a55549a370abb3f9", func := "carding/cardinglaw16.EventsNest", spec := "eventsNest", inPlace := ["internal/abi.NoEscape"], unfollowed := true, recurses := true, plainKeys := false, apart := false, narrowed := true }
def EventsNestUptoSaid : Prop := eventsNestUptoRow.holds Try.pinned (OpenSpec.upto eventsNestSpec)

/-- 'cardinglaw16.EventsTell', WHERE WHAT IT READS IS OF BULK AT MOST 1048576: true; the input reads as it did. -/
def eventsTellUptoRow : OpenClaim := { program := "yteefopeclfojiaa", sum := "13a3364c6dde3f2d31885a6cb2c9f171610e1cc692b9f040a55549a370abb3f9", func := "carding/cardinglaw16.EventsTell", spec := "eventsTell", inPlace := ["internal/abi.NoEscape"], unfollowed := true, recurses := true, plainKeys := false, apart := false, narrowed := true }
def EventsTellUptoSaid : Prop := eventsTellUptoRow.holds Try.pinned (OpenSpec.upto eventsTellSpec)

/-- 'cardinglaw16.EventsPut', WHERE WHAT IT READS IS OF BULK AT MOST 1048576: true; the input reads as it did. -/
def eventsPutUptoRow : OpenClaim := { program := "yteefopeclfojiaa", sum := "13a3364c6dde3f2d31885a6cb2c9f171610e1cc692b9f040a55549a370abb3f9", func := "carding/cardinglaw16.EventsPut", spec := "eventsPut", inPlace := ["internal/abi.NoEscape"], unfollowed := true, recurses := true, plainKeys := false, apart := false, narrowed := true }
def EventsPutUptoSaid : Prop := eventsPutUptoRow.holds Try.pinned (OpenSpec.upto eventsPutSpec)

/-- 'cardinglaw24.AtomNames', WHERE WHAT IT READS IS OF BULK AT MOST 1048576: true; the input reads as it did. -/
def atomNamesUptoRow : OpenClaim := { program := "yteefopeclfojiaa", sum := "13a3364c6dde3f2d31885a6cb2c9f171610e1cc692b9f040a55549a370abb3f9", func := "carding/cardinglaw24.AtomNames", spec := "atomNames", inPlace := ["internal/abi.NoEscape"], unfollowed := true, recurses := true, plainKeys := false, apart := false, narrowed := true }
def AtomNamesUptoSaid : Prop := atomNamesUptoRow.holds Try.pinned (OpenSpec.upto atomNamesSpec)

/-- 'cardinglaw24.AtomItems', WHERE WHAT IT READS IS OF BULK AT MOST 1048576: true; the input reads as it did. -/
def atomItemsUptoRow : OpenClaim := { program := "yteefopeclfojiaa", sum := "13a3364c6dde3f2d31885a6cb2c9f171610e1cc692b9f040a55549a370abb3f9", func := "carding/cardinglaw24.AtomItems", spec := "atomItems", inPlace := ["internal/abi.NoEscape"], unfollowed := true, recurses := true, plainKeys := false, apart := false, narrowed := true }
def AtomItemsUptoSaid : Prop := atomItemsUptoRow.holds Try.pinned (OpenSpec.upto atomItemsSpec)

/-- 'cardinglaw24.AtomEntry', WHERE WHAT IT READS IS OF BULK AT MOST 1048576: true; the input reads as it did. -/
def atomEntryUptoRow : OpenClaim := { program := "yteefopeclfojiaa", sum := "13a3364c6dde3f2d31885a6cb2c9f171610e1cc692b9f040a55549a370abb3f9", func := "carding/cardinglaw24.AtomEntry", spec := "atomEntry", inPlace := ["internal/abi.NoEscape"], unfollowed := true, recurses := true, plainKeys := false, apart := false, narrowed := true }
def AtomEntryUptoSaid : Prop := atomEntryUptoRow.holds Try.pinned (OpenSpec.upto atomEntrySpec)

/-- 'cardinglaw24.AtomFinds', WHERE WHAT IT READS IS OF BULK AT MOST 1048576: true; the input reads as it did. -/
def atomFindsUptoRow : OpenClaim := { program := "yteefopeclfojiaa", sum := "13a3364c6dde3f2d31885a6cb2c9f171610e1cc692b9f040a55549a370abb3f9", func := "carding/cardinglaw24.AtomFinds", spec := "atomFinds", inPlace := ["internal/abi.NoEscape"], unfollowed := true, recurses := true, plainKeys := false, apart := false, narrowed := true }
def AtomFindsUptoSaid : Prop := atomFindsUptoRow.holds Try.pinned (OpenSpec.upto atomFindsSpec)

/-- 'cardinglaw23.RssTells', WHERE WHAT IT READS IS OF BULK AT MOST 1048576: true; the input reads as it did. -/
def rssTellsUptoRow : OpenClaim := { program := "yteefopeclfojiaa", sum := "13a3364c6dde3f2d31885a6cb2c9f171610e1cc692b9f040a55549a370abb3f9", func := "carding/cardinglaw23.RssTells", spec := "rssTells", inPlace := ["internal/abi.NoEscape"], unfollowed := true, recurses := true, plainKeys := false, apart := false, narrowed := true }
def RssTellsUptoSaid : Prop := rssTellsUptoRow.holds Try.pinned (OpenSpec.upto rssTellsSpec)

/-- 'cardinglaw23.RssOthers', WHERE WHAT IT READS IS OF BULK AT MOST 1048576: true; the input reads as it did. -/
def rssOthersUptoRow : OpenClaim := { program := "yteefopeclfojiaa", sum := "13a3364c6dde3f2d31885a6cb2c9f171610e1cc692b9f040a55549a370abb3f9", func := "carding/cardinglaw23.RssOthers", spec := "rssOthers", inPlace := ["internal/abi.NoEscape"], unfollowed := true, recurses := true, plainKeys := false, apart := false, narrowed := true }
def RssOthersUptoSaid : Prop := rssOthersUptoRow.holds Try.pinned (OpenSpec.upto rssOthersSpec)

/-- 'cardinglaw23.RssItems', WHERE WHAT IT READS IS OF BULK AT MOST 1048576: true; the input reads as it did. -/
def rssItemsUptoRow : OpenClaim := { program := "yteefopeclfojiaa", sum := "13a3364c6dde3f2d31885a6cb2c9f171610e1cc692b9f040a55549a370abb3f9", func := "carding/cardinglaw23.RssItems", spec := "rssItems", inPlace := ["internal/abi.NoEscape"], unfollowed := true, recurses := true, plainKeys := false, apart := false, narrowed := true }
def RssItemsUptoSaid : Prop := rssItemsUptoRow.holds Try.pinned (OpenSpec.upto rssItemsSpec)

/-- 'cardinglaw23.RssField', WHERE WHAT IT READS IS OF BULK AT MOST 1048576: true; the input reads as it did. -/
def rssFieldUptoRow : OpenClaim := { program := "yteefopeclfojiaa", sum := "13a3364c6dde3f2d31885a6cb2c9f171610e1cc692b9f040a55549a370abb3f9", func := "carding/cardinglaw23.RssField", spec := "rssField", inPlace := ["internal/abi.NoEscape"], unfollowed := true, recurses := true, plainKeys := false, apart := false, narrowed := true }
def RssFieldUptoSaid : Prop := rssFieldUptoRow.holds Try.pinned (OpenSpec.upto rssFieldSpec)

end Rows
end Go.Proofs.Yteefopeclfojiaa
