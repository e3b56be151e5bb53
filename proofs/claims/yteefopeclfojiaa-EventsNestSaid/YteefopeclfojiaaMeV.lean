/-
  A struct variable of the call's own: what its block holds, behind stores and calls; results that lie in such a variable.
-/
import Derived.Test.YteefopeclfojiaaBase
import Derived.Laws.Rows
import Derived.Laws.ResultCell
namespace Go.Proofs.Yteefopeclfojiaa
open Go.RowKit
theorem bt {a b c : World} (h : Below a.heap.size a b) (k : Below b.heap.size b c) : Below a.heap.size a c := h.trans (k.mono h.size)
/-- the block g holds just the cells cs, none of them frozen. -/
def BlkAt (w : World) (g : Nat) (cs : Array Value) : Prop := ∃ t, w.heap[g]? = some (.cells cs t (0, 0))
theorem BlkAt.new (w : World) (cs : Array Value) (t : TypeId) : BlkAt (w.alloc (.cells cs t)) w.heap.size cs := ⟨t, heap_alloc_new w _⟩
theorem BlkAt.cell {w : World} {g : Nat} {cs : Array Value} (h : BlkAt w g cs) (i : Nat) {v : Value} (hi : cs[i]? = some v) : w.cell? ⟨g, i, none⟩ = some v := by
  obtain ⟨t, h⟩ := h
  rw [cell_of_row w g i cs t _ h, hi]
theorem BlkAt.free {w : World} {g : Nat} {cs : Array Value} (h : BlkAt w g cs) (i : Nat) : w.frozen? ⟨g, i, none⟩ = false := by
  obtain ⟨t, h⟩ := h
  simp [World.frozen?, h]
theorem BlkAt.set {w : World} {g : Nat} {cs : Array Value} (h : BlkAt w g cs) (i : Nat) (v : Value) : BlkAt (w.setCell ⟨g, i, none⟩ v) g (cs.setIfInBounds i v) := by
  obtain ⟨t, h⟩ := h
  exact ⟨t, heap_setCell_same w g i cs t v h⟩
theorem BlkAt.far {w : World} {g : Nat} {cs : Array Value} (h : BlkAt w g cs) {p : Nat} (hne : g ≠ p) (i : Nat) (v : Value) : BlkAt (w.setCell ⟨p, i, none⟩ v) g cs := by
  obtain ⟨t, h⟩ := h
  exact ⟨t, by rw [heap_setCell_other w ⟨p, i, none⟩ g v hne, h]⟩
theorem BlkAt.drewN {w : World} {g : Nat} {cs : Array Value} (h : BlkAt w g cs) (n : Nat) : BlkAt (w.drewN n) g cs := h
theorem BlkAt.drew {w : World} {g : Nat} {cs : Array Value} (h : BlkAt w g cs) : BlkAt w.drew g cs := h
theorem BlkAt.lt {w : World} {g : Nat} {cs : Array Value} (h : BlkAt w g cs) : g < w.heap.size := by
  obtain ⟨t, h⟩ := h
  exact (Array.getElem?_eq_some_iff.1 h).1
theorem BlkAt.below {w w' : World} {g : Nat} {cs : Array Value} (h : BlkAt w g cs) {B : Nat} (hb : Below B w w') (hg : g < B) : BlkAt w' g cs := by
  obtain ⟨t, h⟩ := h
  exact ⟨t, (hb.block g hg).trans h⟩
theorem BlkAt.alloc {w : World} {g : Nat} {cs : Array Value} (h : BlkAt w g cs) (o : Obj) : BlkAt (w.alloc o) g cs := h.below ((Below.refl _ w).alloc (Nat.le_refl _) o) h.lt
theorem BlkAt.grown {w w' : World} {g : Nat} {cs : Array Value} (h : BlkAt w g cs) {row : Option Nat} (hg : w.grownBy w' row) (hne : some g ≠ row) : BlkAt w' g cs := by
  have hl := h.lt
  obtain ⟨t, h⟩ := h
  exact ⟨t, (hg.block g hl hne).trans h⟩
theorem results_cell2 {P : Program} {fn : Func} {p u : Tmp} {ty : TypeId} (h : fn.results = #[.cell p ty, .tmp u]) (tmps : Array Value) (w : World) (g : Nat) (cs : Array Value) (d : TypeDesc)
    (hp : tmps.getD p undef = .pointer (some ⟨g, 0, none⟩)) (hg : BlkAt w g cs)
    (hu : P.underlying ty = some d) (hd : (match d with | .struct _ | .array _ _ => true | _ => false) = true) (hi : (P.info? ty).map (·.size) = some cs.size) :
    (results fn tmps).run P w = .ok (.tuple #[.agg cs, tmps.getD u undef]) w := by
  obtain ⟨t, hg⟩ := hg
  have hp' : tmps[p]?.getD undef = .pointer (some ⟨g, 0, none⟩) := by simpa using hp
  simp [results, h, hp', asAddr, run_loadVar_row w g t ty cs _ d hg hu hd hi]
theorem results_cell3 {P : Program} {fn : Func} {p u v : Tmp} {ty : TypeId} (h : fn.results = #[.cell p ty, .tmp u, .tmp v]) (tmps : Array Value) (w : World) (g : Nat) (cs : Array Value) (d : TypeDesc)
    (hp : tmps.getD p undef = .pointer (some ⟨g, 0, none⟩)) (hg : BlkAt w g cs)
    (hu : P.underlying ty = some d) (hd : (match d with | .struct _ | .array _ _ => true | _ => false) = true) (hi : (P.info? ty).map (·.size) = some cs.size) :
    (results fn tmps).run P w = .ok (.tuple #[.agg cs, tmps.getD u undef, tmps.getD v undef]) w := by
  obtain ⟨t, hg⟩ := hg
  have hp' : tmps[p]?.getD undef = .pointer (some ⟨g, 0, none⟩) := by simpa using hp
  simp [results, h, hp', asAddr, run_loadVar_row w g t ty cs _ d hg hu hd hi]
end Go.Proofs.Yteefopeclfojiaa
