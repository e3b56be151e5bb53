/-
  Layer 16: events as rows of cells; arguments opened.
-/
import Derived.Test.YteefopeclfojiaaOu
import Derived.Test.YteefopeclfojiaaMeV
namespace Go.Proofs.Yteefopeclfojiaa
open Go.RowKit Go.ChangeShapes Go.WideShapes Go.Deep
/-- an attribute: its name (space, local), its value. -/
abbrev AtT : Type := (ByteArray × ByteArray) × ByteArray
/-- an event: its kind, name, attributes, text. -/
structure Evt where
  k : Int
  n : ByteArray × ByteArray
  at_ : List AtT
  tx : ByteArray
/-- an event's cells; its attributes lie behind the slice av. -/
def evC (e : Evt) (av : Value) : List Value := [.int .i8 e.k, .string e.n.1, .string e.n.2, av, .string e.tx]
def atC (l : List AtT) : List Value := l.flatMap fun a => [.string a.1.1, .string a.1.2, .string a.2]
/-- an event by value. -/
def evV (e : Evt) (av : Value) : Value := .agg #[.int .i8 e.k, .string e.n.1, .string e.n.2, av, .string e.tx]
def evsC : List Evt → List Value → List Value
  | e :: es, a :: as_ => evC e a ++ evsC es as_
  | _, _ => []
/-- the attributes of events are read behind their slices. -/
def AtsR (B : Nat) (w : World) : List Evt → List Value → Prop
  | [], [] => True
  | e :: es, a :: as_ => CReads B w a e.at_.length (atC e.at_) ∧ AtsR B w es as_
  | _, _ => False
/-- the slice value reads as these events. -/
def EvsR (B : Nat) (w : World) (v : Value) (es : List Evt) : Prop := ∃ avs, CReads B w v es.length (evsC es avs) ∧ AtsR B w es avs
theorem AtsR.below {B C : Nat} {w w' : World} (hb : Below C w w') (hBC : B ≤ C) : ∀ {es : List Evt} {avs : List Value}, AtsR B w es avs → AtsR B w' es avs
  | [], [], _ => trivial
  | _ :: _, _ :: _, h => ⟨h.1.below hb hBC, AtsR.below hb hBC h.2⟩
theorem AtsR.mono {B C : Nat} {w : World} (hBC : B ≤ C) : ∀ {es : List Evt} {avs : List Value}, AtsR B w es avs → AtsR C w es avs
  | [], [], _ => trivial
  | _ :: _, _ :: _, h => ⟨h.1.mono hBC, AtsR.mono hBC h.2⟩
theorem EvsR.below {B : Nat} {w w' : World} {v : Value} {es : List Evt} (h : EvsR B w v es) {C : Nat} (hb : Below C w w') (hBC : B ≤ C) : EvsR B w' v es := by
  obtain ⟨avs, h1, h2⟩ := h
  exact ⟨avs, h1.below hb hBC, h2.below hb hBC⟩
theorem EvsR.mono {B C : Nat} {w : World} {v : Value} {es : List Evt} (h : EvsR B w v es) (hBC : B ≤ C) : EvsR C w v es := by
  obtain ⟨avs, h1, h2⟩ := h
  exact ⟨avs, h1.mono hBC, h2.mono hBC⟩
theorem EvsR.up {w w' : World} {v : Value} {es : List Evt} (h : EvsR w.heap.size w v es) (hb : Below w.heap.size w w') : EvsR w'.heap.size w' v es := (h.below hb (Nat.le_refl _)).mono hb.size
theorem evsC_at : ∀ (es : List Evt) (avs : List Value) (k : Nat) (e : Evt) (a : Value), es[k]? = some e → avs[k]? = some a → ∀ j u, (evC e a)[j]? = some u → (evsC es avs)[k * 5 + j]? = some u
  | [], _, k, e, a, h, _, _, _, _ => by simp at h
  | _ :: _, [], k, e, a, _, h, _, _, _ => by simp at h
  | x :: es, y :: as_, 0, e, a, h1, h2, j, u, hj => by
    simp at h1 h2
    subst h1
    subst h2
    rw [evsC, Nat.zero_mul, Nat.zero_add, List.getElem?_append_left (List.getElem?_eq_some_iff.1 hj).1]
    exact hj
  | x :: es, y :: as_, k + 1, e, a, h1, h2, j, u, hj => by
    have ih := evsC_at es as_ k e a (by simpa using h1) (by simpa using h2) j u hj
    rw [evsC, List.getElem?_append_right (by show 5 ≤ _; omega)]
    rw [show (k + 1) * 5 + j - (evC x y).length = k * 5 + j by show (k + 1) * 5 + j - 5 = _; omega]
    exact ih
theorem AtsR.get {B : Nat} {w : World} : ∀ {es : List Evt} {avs : List Value} (k : Nat) (e : Evt), AtsR B w es avs → es[k]? = some e → ∃ a, avs[k]? = some a ∧ CReads B w a e.at_.length (atC e.at_)
  | [], _, k, e, _, h => by simp at h
  | _ :: _, [], k, e, h, _ => h.elim
  | x :: es, y :: as_, 0, e, h, h1 => by simp at h1; subst h1; exact ⟨y, rfl, h.1⟩
  | x :: es, y :: as_, k + 1, e, h, h1 => by
    obtain ⟨a, h2, h3⟩ := AtsR.get k e h.2 (by simpa using h1)
    exact ⟨a, by simpa using h2, h3⟩
/-- the event at k, read. -/
theorem EvsR.get {B : Nat} {w : World} {v : Value} {es : List Evt} (h : EvsR B w v es) {C : Nat} {wr : World} (hb : Below C w wr) (hBC : B ≤ C) (k : Nat) (e : Evt) (hk : es[k]? = some e) :
    ∃ b off cap av, v = .slice (some ⟨b, off, none⟩) es.length cap ∧ b < B ∧ wr.cell? ⟨b, off + k * 5, none⟩ = some (.int .i8 e.k) ∧ wr.cell? ⟨b, off + k * 5 + 1, none⟩ = some (.string e.n.1) ∧ wr.cell? ⟨b, off + k * 5 + 2, none⟩ = some (.string e.n.2) ∧
      wr.cell? ⟨b, off + k * 5 + 3, none⟩ = some av ∧ wr.cell? ⟨b, off + k * 5 + 4, none⟩ = some (.string e.tx) ∧ CReads B wr av e.at_.length (atC e.at_) := by
  obtain ⟨avs, hr, ha⟩ := h
  obtain ⟨av, h1, h2⟩ := ha.get k e hk
  obtain ⟨a, cap, rfl, hc⟩ := hr
  have hat := evsC_at es avs k e av hk h1
  obtain ⟨b, off, rfl, hbB, c0⟩ := hc _ _ (hat 0 _ rfl)
  have get : ∀ j u, (evC e av)[j]? = some u → wr.cell? ⟨b, off + (k * 5 + j), none⟩ = some u := fun j u hj => by
    obtain ⟨b', off', hbb, _, c1⟩ := hc _ _ (hat j u hj)
    cases hbb
    exact (hb.cell (p := ⟨b, off + (k * 5 + j), none⟩) (by show b < _; omega)).trans c1
  refine ⟨b, off, cap, av, rfl, hbB, get 0 _ rfl, get 1 _ rfl, get 2 _ rfl, get 3 _ rfl, get 4 _ rfl, h2.below hb hBC⟩
/-- the attribute at k, read. -/
theorem atC_at : ∀ (l : List AtT) (k : Nat) (a : AtT), l[k]? = some a → (atC l)[k * 3]? = some (.string a.1.1) ∧ (atC l)[k * 3 + 1]? = some (.string a.1.2) ∧ (atC l)[k * 3 + 2]? = some (.string a.2)
  | [], k, a, h => by simp at h
  | x :: r, 0, a, h => by simp at h; subst h; exact ⟨rfl, rfl, rfl⟩
  | x :: r, k + 1, a, h => by
    have ih := atC_at r k a (by simpa using h)
    show ([Value.string x.1.1, .string x.1.2, .string x.2] ++ atC r)[(k + 1) * 3]? = _ ∧ ([Value.string x.1.1, .string x.1.2, .string x.2] ++ atC r)[(k + 1) * 3 + 1]? = _ ∧ ([Value.string x.1.1, .string x.1.2, .string x.2] ++ atC r)[(k + 1) * 3 + 2]? = _
    rw [show (k + 1) * 3 = k * 3 + 3 by omega, show k * 3 + 3 + 1 = (k * 3 + 1) + 3 by omega, show k * 3 + 3 + 2 = (k * 3 + 2) + 3 by omega]
    exact ih
theorem CReads.attr {B : Nat} {w : World} {v : Value} {n : Nat} {l : List AtT} (h : CReads B w v n (atC l)) {C : Nat} {wr : World} (hb : Below C w wr) (hBC : B ≤ C) (k : Nat) (a : AtT) (hk : l[k]? = some a) :
    ∃ b off cap, v = .slice (some ⟨b, off, none⟩) n cap ∧ wr.cell? ⟨b, off + k * 3, none⟩ = some (.string a.1.1) ∧ wr.cell? ⟨b, off + k * 3 + 1, none⟩ = some (.string a.1.2) ∧ wr.cell? ⟨b, off + k * 3 + 2, none⟩ = some (.string a.2) := by
  obtain ⟨h0, h1, h2⟩ := atC_at l k a hk
  obtain ⟨a, cap, rfl, hc⟩ := h
  obtain ⟨b, off, rfl, hbB, c0⟩ := hc _ _ h0
  obtain ⟨b1, off1, hbb, _, c1⟩ := hc _ _ h1
  cases hbb
  obtain ⟨b2, off2, hbb, _, c2⟩ := hc _ _ h2
  cases hbb
  exact ⟨b, off, cap, rfl, (hb.cell (p := ⟨b, off + k * 3, none⟩) (by show b < _; omega)).trans c0, (hb.cell (p := ⟨b, off + (k * 3 + 1), none⟩) (by show b < _; omega)).trans c1, (hb.cell (p := ⟨b, off + (k * 3 + 2), none⟩) (by show b < _; omega)).trans c2⟩
/-! arguments opened -/
section
variable {H : Type} {enc : TypeId × Value → H} {W : World} {b0 base : Nat} {held : Bool}
/-- no part of an event is too long. -/
def EvtZ (e : Evt) : Prop := e.n.1.size ≤ reachBytes ∧ e.n.2.size ≤ reachBytes ∧ e.tx.size ≤ reachBytes ∧ e.at_.length ≤ reachBytes ∧ (∀ a ∈ e.at_, a.1.1.size ≤ reachBytes ∧ a.1.2.size ≤ reachBytes ∧ a.2.size ≤ reachBytes) ∧ (Lit.int .i8 e.k).wf = true
theorem open_name {fuel : Nat} {x0 x1 : Value} {z : DataW H × List MemPlace} (tr : DataW.trod enc Try.prog W base (fun _ => true) held fuel 24 [x0, x1] = some z) (wr : Wt Try.prog 24 z.1) :
    ∃ a b : ByteArray, x0 = .string a ∧ x1 = .string b ∧ a.size ≤ reachBytes ∧ b.size ≤ reachBytes := by
  obtain ⟨n0, z0, t0, w0⟩ := field_one Try.underlying24 tr wr 0 0 9 x0 rfl (by kernel_rfl) rfl
  obtain ⟨n1, z1, t1, w1⟩ := field_one Try.underlying24 tr wr 1 1 9 x1 rfl (by kernel_rfl) rfl
  obtain ⟨a, ha, hz⟩ := leaf_string Try.underlying9 t0 w0
  obtain ⟨b, hb, hz'⟩ := leaf_string Try.underlying9 t1 w1
  exact ⟨a, b, by simpa using ha, by simpa using hb, hz, hz'⟩
theorem rows_attrs {m : Nat} : ∀ rows : List (List Value), (∀ r ∈ rows, ∃ a : AtT, r = [.string a.1.1, .string a.1.2, .string a.2] ∧ a.1.1.size ≤ m ∧ a.1.2.size ≤ m ∧ a.2.size ≤ m) →
    ∃ q : List AtT, q.length = rows.length ∧ rows.flatten = atC q ∧ ∀ x ∈ q, x.1.1.size ≤ m ∧ x.1.2.size ≤ m ∧ x.2.size ≤ m
  | [], _ => ⟨[], rfl, rfl, fun x h => by cases h⟩
  | r :: rs, h => by
    obtain ⟨a, rfl, h1⟩ := h r (List.mem_cons_self ..)
    obtain ⟨q, hl, hf, hz⟩ := rows_attrs rs fun x hx => h x (List.mem_cons_of_mem _ hx)
    refine ⟨a :: q, by simp [hl], ?_, fun x hx => ?_⟩
    · rw [List.flatten_cons, hf]; rfl
    · rcases List.mem_cons.1 hx with rfl | hx
      · exact h1
      · exact hz x hx
theorem open_attrs {fuel : Nat} {x : Value} {z : DataW H × List MemPlace} (tr : DataW.trod enc Try.prog W base (fun _ => true) held fuel 28 [x] = some z) (wr : Wt Try.prog 28 z.1) :
    ∃ q : List AtT, CReads W.heap.size W x q.length (atC q) ∧ q.length ≤ reachBytes ∧ ∀ a ∈ q, a.1.1.size ≤ reachBytes ∧ a.1.2.size ≤ reachBytes ∧ a.2.size ≤ reachBytes := by
  obtain ⟨y, rows, hy, hr, hb, hm, hrs⟩ := rows_of Try.underlying28 3 (by kernel_rfl) (by decide) tr wr
  have e1 : x = y := by simpa using hy
  subst e1
  have hrow : ∀ r ∈ rows, ∃ a : AtT, r = [.string a.1.1, .string a.1.2, .string a.2] ∧ a.1.1.size ≤ reachBytes ∧ a.1.2.size ≤ reachBytes ∧ a.2.size ≤ reachBytes := fun r hr => by
    obtain ⟨hl2, n, z, tr, wr⟩ := hrs r hr
    match r, hl2, tr with
    | [x0, x1, x2], _, tr =>
      obtain ⟨n0, z0, t0, w0⟩ := field_some Try.underlying58 tr wr 0 0 2 24 [x0, x1] rfl (by kernel_rfl) rfl
      obtain ⟨n1, z1, t1, w1⟩ := field_one Try.underlying58 tr wr 1 2 9 x2 rfl (by kernel_rfl) rfl
      obtain ⟨a, b, rfl, rfl, g1, g2⟩ := open_name t0 w0
      obtain ⟨c, hc, g3⟩ := leaf_string Try.underlying9 t1 w1
      have e2 : x2 = .string c := by simpa using hc
      exact ⟨((a, b), c), by rw [e2], g1, g2, g3⟩
  obtain ⟨q, hq, hfl, hqz⟩ := rows_attrs rows hrow
  refine ⟨q, by rw [hq, ← hfl]; exact hr, ?_, hqz⟩
  rw [hq]
  rw [show Try.prog.bytesOf 58 = 48 by kernel_rfl] at hb
  omega
theorem open_event {fuel : Nat} {r : List Value} {z : DataW H × List MemPlace} (hl : r.length = 5) (tr : DataW.trod enc Try.prog W base (fun _ => true) held fuel 30 r = some z) (wr : Wt Try.prog 30 z.1) :
    ∃ (e : Evt) (av : Value), r = evC e av ∧ EvtZ e ∧ CReads W.heap.size W av e.at_.length (atC e.at_) := by
  match r, hl, tr with
  | [x0, x1, x2, x3, x4], _, tr =>
    obtain ⟨n0, z0, t0, w0⟩ := field_one Try.underlying30 tr wr 0 0 27 x0 rfl (by kernel_rfl) rfl
    obtain ⟨n1, z1, t1, w1⟩ := field_some Try.underlying30 tr wr 1 1 2 24 [x1, x2] rfl (by kernel_rfl) rfl
    obtain ⟨n2, z2, t2, w2⟩ := field_one Try.underlying30 tr wr 2 3 28 x3 rfl (by kernel_rfl) rfl
    obtain ⟨n3, z3, t3, w3⟩ := field_one Try.underlying30 tr wr 3 4 9 x4 rfl (by kernel_rfl) rfl
    obtain ⟨k, hk, -, hkw⟩ := DataW.trod_int Try.underlying27 t0
    obtain ⟨a, b, rfl, rfl, g1, g2⟩ := open_name t1 w1
    obtain ⟨q, q1, q2, q3⟩ := open_attrs t2 w2
    obtain ⟨c, hc, g3⟩ := leaf_string Try.underlying9 t3 w3
    have e0 : x0 = .int .i8 k := by simpa using hk
    have e4 : x4 = .string c := by simpa using hc
    exact ⟨⟨k, (a, b), q, c⟩, x3, by rw [e0, e4]; rfl, ⟨g1, g2, g3, q2, q3, hkw⟩, q1⟩
theorem rows_events : ∀ rows : List (List Value), (∀ r ∈ rows, ∃ (e : Evt) (av : Value), r = evC e av ∧ EvtZ e ∧ CReads W.heap.size W av e.at_.length (atC e.at_)) →
    ∃ (es : List Evt) (avs : List Value), es.length = rows.length ∧ rows.flatten = evsC es avs ∧ AtsR W.heap.size W es avs ∧ ∀ e ∈ es, EvtZ e
  | [], _ => ⟨[], [], rfl, rfl, trivial, fun e h => by cases h⟩
  | r :: rs, h => by
    obtain ⟨e, av, rfl, h1, h2⟩ := h r (List.mem_cons_self ..)
    obtain ⟨es, avs, hl, hf, ha, hz⟩ := rows_events rs fun x hx => h x (List.mem_cons_of_mem _ hx)
    refine ⟨e :: es, av :: avs, by simp [hl], ?_, ⟨h2, ha⟩, fun x hx => ?_⟩
    · rw [List.flatten_cons, hf]; rfl
    · rcases List.mem_cons.1 hx with rfl | hx
      · exact h1
      · exact hz x hx
/-- events that came in. -/
structure EvsAt (W : World) (v : Value) (es : List Evt) : Prop where
  r : EvsR W.heap.size W v es
  n : es.length ≤ reachBytes
  z : ∀ e ∈ es, EvtZ e
set_option maxRecDepth 100000 in
theorem open_events {r : Reach} {v : Value} {d : DataW H} {p : List MemPlace} (hv : Value.okWide Try.prog W r b0 22 v) (h : DataW.Trod enc Try.prog W base (fun _ => true) held 22 v d p) (hw : Wt Try.prog 22 d) :
    ∃ es : List Evt, EvsAt W v es := by
  obtain ⟨a, len, cap, rfl⟩ := okWide_slice Try.underlying22 hv
  obtain ⟨fuel, hf⟩ := h
  obtain ⟨y, rows, hy, hr, hb, hm, hrs⟩ := rows_of Try.underlying22 5 (by kernel_rfl) (by decide) hf hw
  have e1 : Value.slice a len cap = y := by simpa [Value.cells] using hy
  subst e1
  obtain ⟨es, avs, hl, hfl, ha, hz⟩ := rows_events rows fun r hr => by
    obtain ⟨hl2, n, z, tr, wr⟩ := hrs r hr
    exact open_event hl2 tr wr
  refine ⟨es, ⟨avs, by rw [hl, ← hfl]; exact hr, ha⟩, ?_, hz⟩
  rw [hl]
  rw [show Try.prog.bytesOf 30 = 80 by kernel_rfl] at hb
  omega
set_option maxRecDepth 100000 in
theorem open_eventV {r : Reach} {v : Value} {d : DataW H} {p : List MemPlace} (hv : Value.okWide Try.prog W r b0 30 v) (h : DataW.Trod enc Try.prog W base (fun _ => true) held 30 v d p) (hw : Wt Try.prog 30 d) :
    ∃ (e : Evt) (av : Value), v = evV e av ∧ EvtZ e ∧ CReads W.heap.size W av e.at_.length (atC e.at_) := by
  obtain ⟨cs, rfl, hsz⟩ := okWide_struct Try.underlying30 hv
  obtain ⟨fuel, hf⟩ := h
  obtain ⟨hl, -⟩ := field_of Try.underlying30 hf hw
  rw [show Try.prog.cellsOf 30 = 5 by kernel_rfl] at hl
  obtain ⟨l⟩ := cs
  obtain ⟨e, av, h1, h2, h3⟩ := open_event hl hf hw
  refine ⟨e, av, ?_, h2, h3⟩
  have h1 : l = evC e av := h1
  rw [h1]
  rfl
set_option maxRecDepth 100000 in
theorem open_nameV {r : Reach} {v : Value} {d : DataW H} {p : List MemPlace} (hv : Value.okWide Try.prog W r b0 24 v) (h : DataW.Trod enc Try.prog W base (fun _ => true) held 24 v d p) (hw : Wt Try.prog 24 d) :
    ∃ n : ByteArray × ByteArray, v = .agg #[.string n.1, .string n.2] ∧ n.1.size ≤ reachBytes ∧ n.2.size ≤ reachBytes := by
  obtain ⟨cs, rfl, hsz⟩ := okWide_struct Try.underlying24 hv
  obtain ⟨fuel, hf⟩ := h
  obtain ⟨hl, -⟩ := field_of Try.underlying24 hf hw
  rw [show Try.prog.cellsOf 24 = 2 by kernel_rfl] at hl
  obtain ⟨l⟩ := cs
  match l, hl, hf with
  | [x0, x1], _, hf =>
    obtain ⟨a, b, rfl, rfl, g1, g2⟩ := open_name hf hw
    exact ⟨(a, b), rfl, g1, g2⟩
end
end Go.Proofs.Yteefopeclfojiaa
