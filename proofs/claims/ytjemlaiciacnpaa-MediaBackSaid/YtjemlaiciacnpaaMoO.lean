/-
  Layer 6: an argument that is a Content-Type, opened.
-/
import Derived.Test.YtjemlaiciacnpaaOu
import Derived.Test.YtjemlaiciacnpaaMeK
namespace Go.Proofs.Ytjemlaiciacnpaa
open Go.RowKit Go.ChangeShapes Go.WideShapes Go.Deep
/-- a Content-Type that came in: its parameters read as a list, no text of it is too long. -/
structure MedAt (W : World) (a : ByteArray) (y : Value) (q : List (ByteArray × ByteArray)) : Prop where
  sz : a.size ≤ reachBytes
  r : CReads W.heap.size W y q.length (pairCells q)
  n : q.length ≤ reachBytes
  z : ∀ x ∈ q, x.1.size ≤ reachBytes ∧ x.2.size ≤ reachBytes
theorem rows_pairs {m : Nat} : ∀ rows : List (List Value), (∀ r ∈ rows, ∃ a b : ByteArray, r = [.string a, .string b] ∧ a.size ≤ m ∧ b.size ≤ m) →
    ∃ q : List (ByteArray × ByteArray), q.length = rows.length ∧ rows.flatten = pairCells q ∧ ∀ x ∈ q, x.1.size ≤ m ∧ x.2.size ≤ m
  | [], _ => ⟨[], rfl, rfl, fun x h => by cases h⟩
  | r :: rs, h => by
    obtain ⟨a, b, rfl, h1, h2⟩ := h r (List.mem_cons_self ..)
    obtain ⟨q, hl, hf, hz⟩ := rows_pairs rs fun x hx => h x (List.mem_cons_of_mem _ hx)
    refine ⟨(a, b) :: q, by simp [hl], ?_, fun x hx => ?_⟩
    · rw [List.flatten_cons, hf]; rfl
    · rcases List.mem_cons.1 hx with rfl | hx
      · exact ⟨h1, h2⟩
      · exact hz x hx
theorem open_media {H : Type} {enc : TypeId × Value → H} {W : World} {b0 base : Nat} {held : Bool} {r : Reach} {v : Value} {d : DataW H} {p : List MemPlace}
    (hv : Value.okWide Try.prog W r b0 25 v) (h : DataW.Trod enc Try.prog W base (fun _ => true) held 25 v d p) (hw : Wt Try.prog 25 d) :
    ∃ (a : ByteArray) (y : Value) (q : List (ByteArray × ByteArray)), v = .agg #[.string a, y] ∧ MedAt W a y q := by
  obtain ⟨cs, rfl, hsz⟩ := okWide_struct Try.underlying25 hv
  obtain ⟨fuel, hf⟩ := h
  obtain ⟨hl, -⟩ := field_of Try.underlying25 hf hw
  rw [show Try.prog.cellsOf 25 = 2 by kernel_rfl] at hl
  obtain ⟨l⟩ := cs
  obtain ⟨c0, c1, rfl⟩ : ∃ c0 c1, l = [c0, c1] := by
    match l, hl with
    | [c0, c1], _ => exact ⟨c0, c1, rfl⟩
  obtain ⟨n0, z0, t0, w0⟩ := field_one Try.underlying25 hf hw 0 0 9 c0 rfl (by kernel_rfl) rfl
  obtain ⟨n1, z1, t1, w1⟩ := field_one Try.underlying25 hf hw 1 1 23 c1 rfl (by kernel_rfl) rfl
  obtain ⟨a, ha, hz⟩ := leaf_string Try.underlying9 t0 w0
  obtain ⟨y, rows, hy, hr, hb, hm, hrs⟩ := rows_of Try.underlying23 2 (by kernel_rfl) (by decide) t1 w1
  have e0 : c0 = .string a := by simpa using ha
  have e1 : c1 = y := by simpa using hy
  have hrow : ∀ r ∈ rows, ∃ a b : ByteArray, r = [.string a, .string b] ∧ a.size ≤ reachBytes ∧ b.size ≤ reachBytes := fun r hr => by
    obtain ⟨hl2, n, z, tr, wr⟩ := hrs r hr
    match r, hl2, tr with
    | [x0, x1], _, tr =>
      obtain ⟨n0, z0, t0, w0⟩ := field_one Try.underlying47 tr wr 0 0 9 x0 rfl (by kernel_rfl) rfl
      obtain ⟨n1, z1, t1, w1⟩ := field_one Try.underlying47 tr wr 1 1 9 x1 rfl (by kernel_rfl) rfl
      obtain ⟨a, ha, hz⟩ := leaf_string Try.underlying9 t0 w0
      obtain ⟨b, hb, hz'⟩ := leaf_string Try.underlying9 t1 w1
      have e0 : x0 = .string a := by simpa using ha
      have e1 : x1 = .string b := by simpa using hb
      exact ⟨a, b, by rw [e0, e1], hz, hz'⟩
  obtain ⟨q, hq, hfl, hqz⟩ := rows_pairs rows hrow
  refine ⟨a, y, q, ?_, hz, by rw [hq, ← hfl]; exact hr, ?_, hqz⟩
  · rw [e0, e1]
  · rw [hq]
    rw [show Try.prog.bytesOf 47 = 32 by kernel_rfl] at hb
    omega
end Go.Proofs.Ytjemlaiciacnpaa
