/-
  Arguments opened: a slice that came in reads as a list of its elements.
-/
import Derived.Test.YteefopeclfojiaaSl
import Derived.Deep.Slices
import Derived.ChangeSame
import Derived.ProofKit
namespace Go.Proofs.Yteefopeclfojiaa
open Go.RowKit Go.ChangeShapes Go.WideShapes Go.Deep
theorem list_of {α : Type} (R : Nat → α → Prop) : ∀ n, (∀ i, i < n → ∃ a, R i a) → ∃ xs : List α, xs.length = n ∧ ∀ i (h : i < xs.length), R i xs[i]
  | 0, _ => ⟨[], rfl, fun i h => by simp at h⟩
  | n + 1, h => by
    obtain ⟨xs, hl, hx⟩ := list_of R n fun i hi => h i (by omega)
    obtain ⟨a, ha⟩ := h n (by omega)
    refine ⟨xs ++ [a], by simp [hl], fun i hi => ?_⟩
    by_cases hin : i < xs.length
    · rw [List.getElem_append_left hin]; exact hx i hin
    · have : i = n := by simp at hi; omega
      subst this
      rw [List.getElem_append_right (by omega)]
      simpa [hl] using ha
section
variable {H : Type} {enc : TypeId × Value → H} {P : Program} {W : World} {b0 base : Nat} {held : Bool} {t e : TypeId} {v : Value} {d : DataW H} {p : List MemPlace}
theorem opens_one {α : Type} (con : α → Value) (ht : P.underlying t = some (.slice e)) (hc : P.cellsOf e = 1) (hone : ∀ fuel cs x, DataW.trod enc P W base (fun _ => true) held fuel e cs = some x → ∃ a, cs = [con a])
    (hv : Value.okWide P W .any b0 t v) (h : DataW.Trod enc P W base (fun _ => true) held t v d p) : ∃ xs : List α, Reads W.heap.size W v (xs.map con) := by
  obtain ⟨a, len, cap, rfl⟩ := okWide_slice ht hv
  obtain ⟨fuel, hf⟩ := h
  rcases open_slice ht hf with ⟨h1, _⟩ | ⟨a', len', cap', m, n, D, Pl, h1, hb, hl, hm, hmm, _, hi⟩
  · have : Value.slice a len cap = .slice none 0 0 := by simpa [Value.cells] using h1
    cases this
    exact ⟨[], by simp, none, 0, rfl, .inl rfl⟩
  · have hs : Value.slice a len cap = .slice (some a') len' cap' := by simpa [Value.cells] using h1
    cases hs
    have hmc : m = cap := by simpa using hmm
    obtain ⟨b, off, spot⟩ := a'
    have each : ∀ i, i < len → ∃ x, W.cell? ((⟨b, off, spot⟩ : Addr).add i) = some (con x) := fun i hil => by
      obtain ⟨cs', hcs, htr⟩ := hi i (by omega)
      obtain ⟨x, rfl⟩ := hone _ _ _ htr
      obtain ⟨_, hcl, hat⟩ := World.cells?_some hcs
      refine ⟨x, ?_⟩
      have := hat 0 (by rw [hc]; omega)
      rw [hc] at this
      simpa [Addr.add] using this
    obtain ⟨xs, hxl, hx⟩ := list_of (fun i x => W.cell? ((⟨b, off, spot⟩ : Addr).add i) = some (con x)) len each
    refine ⟨xs, by rw [List.length_map]; omega, some ⟨b, off, spot⟩, cap, by rw [List.length_map, hxl], ?_⟩
    by_cases h0 : len = 0
    · left
      rw [List.eq_nil_of_length_eq_zero (by omega : xs.length = 0)]; rfl
    · right
      have hc0 := hx 0 (by omega)
      have hspot : spot = none := by simpa [Addr.add] using World.cell?_spot hc0
      subst hspot
      have hadd : ∀ i, (⟨b, off, none⟩ : Addr).add i = ⟨b, off + i, none⟩ := fun i => by unfold Addr.add; split <;> simp_all
      have hbl : b < W.heap.size := by
        rw [hadd] at hc0
        simp only [World.cell?] at hc0
        by_cases hlt : b < W.heap.size
        · exact hlt
        · rw [Array.getElem?_eq_none (by omega)] at hc0; simp at hc0
      refine ⟨b, off, rfl, hbl, fun i hil => ?_⟩
      rw [List.length_map] at hil
      rw [← hadd, hx i hil, List.getElem_map]
theorem opens_string (ht : P.underlying t = some (.slice e)) (he : P.underlying e = some .string) (hc : P.cellsOf e = 1) (hv : Value.okWide P W .any b0 t v) (h : DataW.Trod enc P W base (fun _ => true) held t v d p) :
    ∃ xs : List ByteArray, Reads W.heap.size W v (xs.map Value.string) :=
  opens_one Value.string ht hc (fun _ _ _ h => by obtain ⟨s, hs, _⟩ := DataW.trod_string he h; exact ⟨s, hs⟩) hv h
theorem opens_bool (ht : P.underlying t = some (.slice e)) (he : P.underlying e = some .bool) (hc : P.cellsOf e = 1) (hv : Value.okWide P W .any b0 t v) (h : DataW.Trod enc P W base (fun _ => true) held t v d p) :
    ∃ xs : List Bool, Reads W.heap.size W v (xs.map Value.bool) :=
  opens_one Value.bool ht hc (fun _ _ _ h => by obtain ⟨s, hs, _⟩ := DataW.trod_bool he h; exact ⟨s, hs⟩) hv h
theorem opens_int {k : IntKind} (ht : P.underlying t = some (.slice e)) (he : P.underlying e = some (.int k)) (hc : P.cellsOf e = 1) (hv : Value.okWide P W .any b0 t v) (h : DataW.Trod enc P W base (fun _ => true) held t v d p) :
    ∃ xs : List Int, Reads W.heap.size W v (xs.map (Value.int k)) :=
  opens_one (Value.int k) ht hc (fun _ _ _ h => by obtain ⟨s, hs, _⟩ := DataW.trod_int he h; exact ⟨s, hs⟩) hv h
end
end Go.Proofs.Yteefopeclfojiaa
