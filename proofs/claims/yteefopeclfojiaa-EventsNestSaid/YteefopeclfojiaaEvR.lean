/-
  Layer 16: what an argument of events is known to be.
-/
import Derived.Test.YteefopeclfojiaaEvU
import Derived.Test.YteefopeclfojiaaEvY
namespace Go.Proofs.Yteefopeclfojiaa
open Go.RowKit Go.ChangeShapes Go.WideShapes Go.Deep
/-- a row of events that came in: it reads, no part of it is too long, its capacity holds it. -/
structure EvsIn (W : World) (v : Value) (es : List Evt) : Prop where
  at_ : EvsAt W v es
  cap : CapR v es.length
theorem EvsIn.r {W : World} {v : Value} {es : List Evt} (h : EvsIn W v es) : EvsR W.heap.size W v es := h.at_.r
theorem EvsIn.small {W : World} {v : Value} {es : List Evt} (h : EvsIn W v es) : ∀ e ∈ es, e.tx.size ≤ 140737488351232 ∧ e.n.1.size ≤ 140737488351232 ∧ e.n.2.size ≤ 140737488351232 ∧ e.at_.length ≤ 140737488351232 ∧ ∀ a ∈ e.at_, a.1.1.size ≤ 140737488351232 ∧ a.1.2.size ≤ 140737488351232 ∧ a.2.size ≤ 140737488351232 := fun e he => by
  obtain ⟨h1, h2, h3, h4, h5, h6⟩ := h.at_.z e he
  exact ⟨h3, h1, h2, h4, h5⟩
/-- an event that came in. -/
structure EvIn (W : World) (e : Evt) (av : Value) : Prop where
  z : EvtZ e
  r : CReads W.heap.size W av e.at_.length (atC e.at_)
/-- a name that came in. -/
structure NmIn (n : ByteArray × ByteArray) : Prop where
  a : n.1.size ≤ 140737488351232
  b : n.2.size ≤ 140737488351232
section
variable {H : Type} {enc : TypeId × Value → H} {W : World} {b0 base : Nat} {held : Bool}
set_option maxRecDepth 100000 in
theorem open_evs {r : Reach} {v : Value} {d : DataW H} {p : List MemPlace} (hv : Value.okWide Try.prog W r b0 22 v) (h : DataW.Trod enc Try.prog W base (fun _ => true) held 22 v d p) (hw : Wt Try.prog 22 d) :
    ∃ es : List Evt, EvsIn W v es := by
  obtain ⟨es, he⟩ := open_events hv h hw
  refine ⟨es, he, ?_⟩
  obtain ⟨fuel, hf⟩ := h
  obtain ⟨a, len, cap, rfl⟩ := okWide_slice Try.underlying22 hv
  obtain ⟨avs, ⟨a2, c2, h2, -⟩, -⟩ := he.r
  injection h2 with h3 h4 h5
  subst h4
  rcases open_slice Try.underlying22 hf with ⟨h6, -⟩ | ⟨a', len', cap', m, n, D, Pl, h6, hb, hl, hm, -⟩
  · have h7 : Value.slice a es.length cap = .slice none 0 0 := by simpa [Value.cells] using h6
    injection h7 with h8 h9 h10
    exact ⟨a, cap, rfl, by omega, by rw [h10]; exact Nat.zero_le _⟩
  · have h7 : Value.slice a es.length cap = .slice (some a') len' cap' := by simpa [Value.cells] using h6
    injection h7 with h8 h9 h10
    exact ⟨a, cap, rfl, by omega, by omega⟩
set_option maxRecDepth 100000 in
theorem open_ev {r : Reach} {v : Value} {d : DataW H} {p : List MemPlace} (hv : Value.okWide Try.prog W r b0 30 v) (h : DataW.Trod enc Try.prog W base (fun _ => true) held 30 v d p) (hw : Wt Try.prog 30 d) :
    ∃ (e : Evt) (av : Value), v = evV e av ∧ EvIn W e av := by
  obtain ⟨e, av, h1, h2, h3⟩ := open_eventV hv h hw
  exact ⟨e, av, h1, h2, h3⟩
set_option maxRecDepth 100000 in
theorem open_nm {r : Reach} {v : Value} {d : DataW H} {p : List MemPlace} (hv : Value.okWide Try.prog W r b0 24 v) (h : DataW.Trod enc Try.prog W base (fun _ => true) held 24 v d p) (hw : Wt Try.prog 24 d) :
    ∃ n : ByteArray × ByteArray, v = .agg #[.string n.1, .string n.2] ∧ NmIn n := by
  obtain ⟨n, h1, h2, h3⟩ := open_nameV hv h hw
  exact ⟨n, h1, h2, h3⟩
end
end Go.Proofs.Yteefopeclfojiaa
