/-
  A slice that reads, cell by cell, as a list of cells: slices of structs.
-/
import Derived.Test.YteefopeclfojiaaSl
namespace Go.Proofs.Yteefopeclfojiaa
open Go.RowKit
/-- the slice value reads, cell by cell, as cs. -/
def CReads (B : Nat) (w : World) (v : Value) (n : Nat) (cs : List Value) : Prop :=
  ∃ a cap, v = .slice a n cap ∧ ∀ i u, cs[i]? = some u → ∃ b off, a = some ⟨b, off, none⟩ ∧ b < B ∧ w.cell? ⟨b, off + i, none⟩ = some u
theorem CReads.below {B : Nat} {w w' : World} {v : Value} {n : Nat} {cs : List Value} (h : CReads B w v n cs) {C : Nat} (hb : Below C w w') (hBC : B ≤ C) : CReads B w' v n cs := by
  obtain ⟨a, cap, rfl, h⟩ := h
  refine ⟨a, cap, rfl, fun i u hi => ?_⟩
  obtain ⟨b, off, rfl, hb', hc⟩ := h i u hi
  exact ⟨b, off, rfl, hb', (hb.cell (p := ⟨b, off + i, none⟩) (by show b < C; omega)).trans hc⟩
theorem CReads.mono {B C : Nat} {w : World} {v : Value} {n : Nat} {cs : List Value} (h : CReads B w v n cs) (hBC : B ≤ C) : CReads C w v n cs := by
  obtain ⟨a, cap, rfl, h⟩ := h
  refine ⟨a, cap, rfl, fun i u hi => ?_⟩
  obtain ⟨b, off, rfl, hb', hc⟩ := h i u hi
  exact ⟨b, off, rfl, by omega, hc⟩
theorem CReads.of_own {w : World} {base : Nat} {e : TypeId} {size : Nat} {v : Value} {n : Nat} {xs : List Value} (h : w.ownsRow base e size v n xs) : CReads w.heap.size w v n xs := by
  rcases h.2 with ⟨rfl, rfl⟩ | ⟨g, cap, cur, rfl, h1, hg, h2, h3, h4, h5⟩
  · have : xs = [] := List.eq_nil_of_length_eq_zero (by rw [h.1, Nat.zero_mul])
    subst this
    exact ⟨none, 0, rfl, fun i u hi => by simp at hi⟩
  · refine ⟨some ⟨g, 0, none⟩, cap, rfl, fun i u hi => ⟨g, 0, rfl, (Array.getElem?_eq_some_iff.1 hg).1, ?_⟩⟩
    have := h.cells (g := g) rfl i u hi
    rwa [addr0] at this
end Go.Proofs.Yteefopeclfojiaa
