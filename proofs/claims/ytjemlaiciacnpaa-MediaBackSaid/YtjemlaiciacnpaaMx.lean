/-
  The library's variable MaxLen: it holds some number, and goes on holding it.
-/
import Derived.Test.YtjemlaiciacnpaaMeV
namespace Go.Proofs.Ytjemlaiciacnpaa
open Go.RowKit
/-- the library's variable holds some number. -/
def MaxAt (w : World) (m : Int) : Prop := w.cell? ⟨0, 0, none⟩ = some (.int .i64 m)
theorem MaxAt.lt {w : World} {m : Int} (h : MaxAt w m) : 0 < w.heap.size := by
  unfold MaxAt at h
  simp only [World.cell?] at h
  by_cases hlt : 0 < w.heap.size
  · exact hlt
  · rw [Array.getElem?_eq_none (by omega)] at h; simp at h
theorem MaxAt.below {w w' : World} {m : Int} (hm : MaxAt w m) (hb : Below w.heap.size w w') : MaxAt w' m :=
  (hb.cell (p := ⟨0, 0, none⟩) hm.lt).trans hm
/-- a string's variable is not the library's. -/
theorem MaxAt.grown {w w' : World} {m : Int} (hm : MaxAt w m) {b : Nat} {s : ByteArray} {cs : Array Value} (hs : BlkAt w b (#[.string s] ++ cs)) (hg : w.grownBy w' (some b)) : MaxAt w' m := by
  refine (World.cell?_of_block (hg.block _ hm.lt (fun e => ?_))).trans hm
  injection e with e
  have e : 0 = b := e
  obtain ⟨t, h⟩ := hs
  rw [← e] at h
  unfold MaxAt at hm
  simp [World.cell?, h] at hm
  rw [Array.getElem?_append_left (by simp)] at hm
  simp at hm
end Go.Proofs.Ytjemlaiciacnpaa
