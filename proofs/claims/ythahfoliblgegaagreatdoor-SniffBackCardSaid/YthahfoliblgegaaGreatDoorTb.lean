/-
  The library's table of white space: it reads as the program text lays it, and goes on so.
-/
import Derived.Test.YthahfoliblgegaaGreatDoorG1
import Derived.Lib.LaidTab
import Derived.Lib.Fields
import Derived.Shelf.Strings.Fields
import Derived.Lay
namespace Go.Proofs.YthahfoliblgegaaGreatDoor
open Go.RowKit
/-- the table. -/
def TabAt (w : World) : Prop := Lib.TabIs Tryz.prog w "strings.asciiSpace" .u8 Lib.asciiSpaceTab
theorem laidMet_tail {P : Program} {x : String × DataW Unit} {r : List (String × DataW Unit)} {w : World} (h : laidMet P (x :: r) w) : laidMet P r w := by
  obtain ⟨ps, ⟨g, t, cs, fuel, p, q, _, _, _, _, hq, rfl⟩, hn, hp⟩ := h
  exact ⟨q, hq, (List.nodup_append.1 hn).2.1, fun b off hm => hp b off (List.mem_append_right _ hm)⟩
theorem TabAt.below {w w' : World} (h : TabAt w) (hb : Below w.heap.size w w') : TabAt w' := by
  have hgn : Tryz.prog.globalNamed "strings.asciiSpace" = some 0 := by kernel_rfl
  unfold TabAt Lib.TabIs World.var? at h ⊢
  rw [hgn] at h ⊢
  simp only [Option.bind_some] at h ⊢
  have hlt : 0 < w.heap.size := by
    rcases Nat.lt_or_ge 0 w.heap.size with h' | h'
    · exact h'
    · rw [Array.getElem?_eq_none h'] at h; cases h
  rw [hb.block 0 hlt]
  exact h
theorem tabAt_of {r : List (String × DataW Unit)} {w : World} (h : laidMet Tryz.prog (("strings.asciiSpace", Lib.tabData .u8 Lib.asciiSpaceTab) :: r) w) : TabAt w :=
  Lib.tabIs_of_head (g := 0) (t := 178) (e := 5) (n := 256) (by kernel_rfl) (by kernel_rfl) Tryz.underlying178 Tryz.underlying5 (by kernel_rfl) (by kernel_rfl) h
end Go.Proofs.YthahfoliblgegaaGreatDoor
