/-
  Parts Op Cr Ou MeV Nm EvO EvP EvA EvS EvB of this seat's texts, in one file: contracts of functions that the law reaches, and the plain laws behind them. No condition.
-/
import Derived.Test.YteefopeclfojiaaG1
import Derived.Deep.Slices
import Derived.ChangeSame
import Derived.ProofKit
import Derived.SizedLaws
import Derived.ChangeArms
import Derived.Laws.Rows
import Derived.Laws.ResultCell
import Derived.Laws.StructEq
import Derived.ArgAppend
import Derived.IntWalk
import Derived.WalkMore
import Derived.StillTailTactics
/- 
  Arguments opened: a slice that came in reads as a list of its elements.
 -/
namespace Go.Proofs.Yteefopeclfojiaa
open Go.RowKit Go.ChangeShapes Go.WideShapes Go.Deep
theorem list_of {α : Type} (R : Nat → α → Prop) : ∀ n, (∀ i, i < n → ∃ a, R i a) → ∃ xs : List α, xs.length = n ∧ ∀ i (h : i < xs.length), R i xs[i]
  | 0, _ => ⟨[], rfl, fun i h => by simp at h⟩
  | n + 1, h => by
    obtain ⟨xs, hl, hx⟩ := list_of R n fun i hi => h i (by omega)
    obtain ⟨a, ha⟩ := h n (by omega)
    refine ⟨xs ++ [a], by simp [hl], fun i hi => ?_⟩
    by_cases hin : i < xs.length
    · rw [List.getElem_append_left hin]; exact hx i hin
    · have : i = n := by simp at hi; omega
      subst this
      rw [List.getElem_append_right (by omega)]
      simpa [hl] using ha
section
variable {H : Type} {enc : TypeId × Value → H} {P : Program} {W : World} {b0 base : Nat} {held : Bool} {t e : TypeId} {v : Value} {d : DataW H} {p : List MemPlace}
theorem opens_one {α : Type} (con : α → Value) (ht : P.underlying t = some (.slice e)) (hc : P.cellsOf e = 1) (hone : ∀ fuel cs x, DataW.trod enc P W base (fun _ => true) held fuel e cs = some x → ∃ a, cs = [con a])
    (hv : Value.okWide P W .any b0 t v) (h : DataW.Trod enc P W base (fun _ => true) held t v d p) : ∃ xs : List α, Reads W.heap.size W v (xs.map con) := by
  obtain ⟨a, len, cap, rfl⟩ := okWide_slice ht hv
  obtain ⟨fuel, hf⟩ := h
  rcases open_slice ht hf with ⟨h1, _⟩ | ⟨a', len', cap', m, n, D, Pl, h1, hb, hl, hm, hmm, _, hi⟩
  · have : Value.slice a len cap = .slice none 0 0 := by simpa [Value.cells] using h1
    cases this
    exact ⟨[], by simp, none, 0, rfl, .inl rfl⟩
  · have hs : Value.slice a len cap = .slice (some a') len' cap' := by simpa [Value.cells] using h1
    cases hs
    have hmc : m = cap := by simpa using hmm
    obtain ⟨b, off, spot⟩ := a'
    have each : ∀ i, i < len → ∃ x, W.cell? ((⟨b, off, spot⟩ : Addr).add i) = some (con x) := fun i hil => by
      obtain ⟨cs', hcs, htr⟩ := hi i (by omega)
      obtain ⟨x, rfl⟩ := hone _ _ _ htr
      obtain ⟨_, hcl, hat⟩ := World.cells?_some hcs
      refine ⟨x, ?_⟩
      have := hat 0 (by rw [hc]; omega)
      rw [hc] at this
      simpa [Addr.add] using this
    obtain ⟨xs, hxl, hx⟩ := list_of (fun i x => W.cell? ((⟨b, off, spot⟩ : Addr).add i) = some (con x)) len each
    refine ⟨xs, by rw [List.length_map]; omega, some ⟨b, off, spot⟩, cap, by rw [List.length_map, hxl], ?_⟩
    by_cases h0 : len = 0
    · left
      rw [List.eq_nil_of_length_eq_zero (by omega : xs.length = 0)]; rfl
    · right
      have hc0 := hx 0 (by omega)
      have hspot : spot = none := by simpa [Addr.add] using World.cell?_spot hc0
      subst hspot
      have hadd : ∀ i, (⟨b, off, none⟩ : Addr).add i = ⟨b, off + i, none⟩ := fun i => by unfold Addr.add; split <;> simp_all
      have hbl : b < W.heap.size := by
        rw [hadd] at hc0
        simp only [World.cell?] at hc0
        by_cases hlt : b < W.heap.size
        · exact hlt
        · rw [Array.getElem?_eq_none (by omega)] at hc0; simp at hc0
      refine ⟨b, off, rfl, hbl, fun i hil => ?_⟩
      rw [List.length_map] at hil
      rw [← hadd, hx i hil, List.getElem_map]
theorem opens_string (ht : P.underlying t = some (.slice e)) (he : P.underlying e = some .string) (hc : P.cellsOf e = 1) (hv : Value.okWide P W .any b0 t v) (h : DataW.Trod enc P W base (fun _ => true) held t v d p) :
    ∃ xs : List ByteArray, Reads W.heap.size W v (xs.map Value.string) :=
  opens_one Value.string ht hc (fun _ _ _ h => by obtain ⟨s, hs, _⟩ := DataW.trod_string he h; exact ⟨s, hs⟩) hv h
theorem opens_bool (ht : P.underlying t = some (.slice e)) (he : P.underlying e = some .bool) (hc : P.cellsOf e = 1) (hv : Value.okWide P W .any b0 t v) (h : DataW.Trod enc P W base (fun _ => true) held t v d p) :
    ∃ xs : List Bool, Reads W.heap.size W v (xs.map Value.bool) :=
  opens_one Value.bool ht hc (fun _ _ _ h => by obtain ⟨s, hs, _⟩ := DataW.trod_bool he h; exact ⟨s, hs⟩) hv h
theorem opens_int {k : IntKind} (ht : P.underlying t = some (.slice e)) (he : P.underlying e = some (.int k)) (hc : P.cellsOf e = 1) (hv : Value.okWide P W .any b0 t v) (h : DataW.Trod enc P W base (fun _ => true) held t v d p) :
    ∃ xs : List Int, Reads W.heap.size W v (xs.map (Value.int k)) :=
  opens_one (Value.int k) ht hc (fun _ _ _ h => by obtain ⟨s, hs, _⟩ := DataW.trod_int he h; exact ⟨s, hs⟩) hv h
end
end Go.Proofs.Yteefopeclfojiaa
/- 
  A slice that reads, cell by cell, as a list of cells: slices of structs.
 -/
namespace Go.Proofs.Yteefopeclfojiaa
open Go.RowKit
/-- the slice value reads, cell by cell, as cs. -/
def CReads (B : Nat) (w : World) (v : Value) (n : Nat) (cs : List Value) : Prop :=
  ∃ a cap, v = .slice a n cap ∧ ∀ i u, cs[i]? = some u → ∃ b off, a = some ⟨b, off, none⟩ ∧ b < B ∧ w.cell? ⟨b, off + i, none⟩ = some u
theorem CReads.below {B : Nat} {w w' : World} {v : Value} {n : Nat} {cs : List Value} (h : CReads B w v n cs) {C : Nat} (hb : Below C w w') (hBC : B ≤ C) : CReads B w' v n cs := by
  obtain ⟨a, cap, rfl, h⟩ := h
  refine ⟨a, cap, rfl, fun i u hi => ?_⟩
  obtain ⟨b, off, rfl, hb', hc⟩ := h i u hi
  exact ⟨b, off, rfl, hb', (hb.cell (p := ⟨b, off + i, none⟩) (by show b < C; omega)).trans hc⟩
theorem CReads.mono {B C : Nat} {w : World} {v : Value} {n : Nat} {cs : List Value} (h : CReads B w v n cs) (hBC : B ≤ C) : CReads C w v n cs := by
  obtain ⟨a, cap, rfl, h⟩ := h
  refine ⟨a, cap, rfl, fun i u hi => ?_⟩
  obtain ⟨b, off, rfl, hb', hc⟩ := h i u hi
  exact ⟨b, off, rfl, by omega, hc⟩
theorem CReads.of_own {w : World} {base : Nat} {e : TypeId} {size : Nat} {v : Value} {n : Nat} {xs : List Value} (h : w.ownsRow base e size v n xs) : CReads w.heap.size w v n xs := by
  rcases h.2 with ⟨rfl, rfl⟩ | ⟨g, cap, cur, rfl, h1, hg, h2, h3, h4, h5⟩
  · have : xs = [] := List.eq_nil_of_length_eq_zero (by rw [h.1, Nat.zero_mul])
    subst this
    exact ⟨none, 0, rfl, fun i u hi => by simp at hi⟩
  · refine ⟨some ⟨g, 0, none⟩, cap, rfl, fun i u hi => ⟨g, 0, rfl, (Array.getElem?_eq_some_iff.1 hg).1, ?_⟩⟩
    have := h.cells (g := g) rfl i u hi
    rwa [addr0] at this
end Go.Proofs.Yteefopeclfojiaa
/- 
  Arguments opened: what a datum weighs; a slice of structs reads as its cells, row by row.
 -/
namespace Go.Proofs.Yteefopeclfojiaa
open Go.RowKit Go.ChangeShapes Go.WideShapes Go.Deep
section
variable {H : Type} {enc : TypeId × Value → H} {P : Program} {W : World} {b0 base : Nat} {held : Bool} {t e : TypeId} {v : Value} {d : DataW H} {p : List MemPlace}
/-- no part of the datum is longer than what is reached. -/
def Wt (P : Program) (t : TypeId) (d : DataW H) : Prop := ∀ n ∈ d.weights P t, n ≤ reachBytes
theorem wt_each : ∀ {ts : List TypeId} {ds : List (DataW H)}, (∀ n ∈ DataW.weightsEach P ts ds, n ≤ reachBytes) → ∀ (i : Nat) t d, ts[i]? = some t → ds[i]? = some d → Wt P t d
  | [], ds, _, i, t, d, ht, _ => by simp at ht
  | a :: ts, [], _, i, t, d, _, hd => by simp at hd
  | a :: ts, x :: ds, h, 0, t, d, ht, hd => fun n hn => h n (by
      simp at ht hd; subst ht; subst hd
      rw [DataW.weightsEach]
      exact List.mem_append_left _ hn)
  | a :: ts, x :: ds, h, i + 1, t, d, ht, hd => wt_each (ts := ts) (ds := ds) (fun n hn => h n (by rw [DataW.weightsEach]; exact List.mem_append_right _ hn)) i t d (by simpa using ht) (by simpa using hd)
theorem wt_all {e : TypeId} : ∀ {ds : List (DataW H)}, (∀ n ∈ DataW.weightsAll P e ds, n ≤ reachBytes) → ∀ d ∈ ds, Wt P e d
  | [], _, d, hd => by cases hd
  | x :: ds, h, d, hd => by
    rcases List.mem_cons.1 hd with rfl | hd
    · exact fun n hn => h n (by rw [DataW.weightsAll]; exact List.mem_append_left _ hn)
    · exact wt_all (ds := ds) (fun n hn => h n (by rw [DataW.weightsAll]; exact List.mem_append_right _ hn)) d hd
theorem wt_agg {fs : Array Field} (ht : P.underlying t = some (.struct fs)) {ps : List (DataW H)} (h : Wt P t (.agg ps)) (i : Nat) {f : Field} {d : DataW H} (hf : fs[i]? = some f) (hd : ps[i]? = some d) : Wt P f.type d := by
  unfold Wt at h
  rw [DataW.weights] at h
  simp only [ht] at h
  exact wt_each h i f.type d (by rw [List.getElem?_map]; simp [hf]) hd
theorem wt_slice (ht : P.underlying t = some (.slice e)) {es sp : List (DataW H)} (h : Wt P t (.slice es sp)) : es.length * P.bytesOf e ≤ reachBytes ∧ ∀ d ∈ es, Wt P e d := by
  unfold Wt at h
  rw [DataW.weights] at h
  simp only [ht] at h
  have h1 := h _ (List.mem_cons_self ..)
  refine ⟨Nat.le_trans (Nat.mul_le_mul_right _ (by omega)) h1, wt_all fun n hn => h n (List.mem_cons_of_mem _ (List.mem_append_left _ hn))⟩
theorem wt_string {bytes : List UInt8} (h : Wt P t (.lit (.string bytes) : DataW H)) : bytes.length ≤ reachBytes := h _ (by simp [DataW.weights])
theorem wt_of {ts : List TypeId} {ds : List (DataW H)} (h : (DataW.weightsEach P ts ds).all (· ≤ reachBytes) = true) (i : Nat) {t : TypeId} {d : DataW H} (ht : ts[i]? = some t) (hd : ds[i]? = some d) : Wt P t d :=
  wt_each (fun n hn => by simpa using List.all_eq_true.1 h n hn) i t d ht hd
/-- a string cell. -/
theorem leaf_string {fuel : Nat} {cs : List Value} {y : DataW H × List MemPlace} (ht : P.underlying t = some .string) (h : DataW.trod enc P W base (fun _ => true) held fuel t cs = some y) (hw : Wt P t y.1) : ∃ s : ByteArray, cs = [.string s] ∧ s.size ≤ reachBytes := by
  obtain ⟨s, rfl, rfl, _⟩ := DataW.trod_string ht h
  refine ⟨s, rfl, ?_⟩
  have h1 := wt_string hw
  rwa [Array.length_toList] at h1
/-- a struct's field. -/
theorem field_of {fuel : Nat} {cs : List Value} {y : DataW H × List MemPlace} {fs : Array Field} (ht : P.underlying t = some (.struct fs)) (h : DataW.trod enc P W base (fun _ => true) held fuel t cs = some y) (hw : Wt P t y.1) :
    cs.length = P.cellsOf t ∧ ∀ (i : Nat) (f : Field), fs[i]? = some f → ∃ n z, DataW.trod enc P W base (fun _ => true) held n f.type ((cs.drop f.offset).take (P.cellsOf f.type)) = some z ∧ Wt P f.type z.1 := by
  obtain ⟨xs, n, _, rfl, hl, hlen, hf⟩ := DataW.trod_struct ht h
  refine ⟨hl, fun i f hi => ?_⟩
  have hil : i < xs.length := by rw [hlen]; exact (Array.getElem?_eq_some_iff.1 hi).1
  have h1 := hf i f hi
  rw [List.getElem?_eq_getElem hil] at h1
  exact ⟨n, _, h1, wt_agg ht hw i hi (by rw [List.getElem?_map, List.getElem?_eq_getElem hil]; rfl)⟩
/-- a struct's field of one cell. -/
theorem field_one {fuel : Nat} {cs : List Value} {y : DataW H × List MemPlace} {fs : Array Field} (ht : P.underlying t = some (.struct fs)) (h : DataW.trod enc P W base (fun _ => true) held fuel t cs = some y) (hw : Wt P t y.1)
    (i o : Nat) (T : TypeId) (c : Value) (hi : (fs[i]?.map fun f => (f.offset, f.type)) = some (o, T)) (hc : P.cellsOf T = 1) (hv : cs[o]? = some c) :
    ∃ n z, DataW.trod enc P W base (fun _ => true) held n T [c] = some z ∧ Wt P T z.1 := by
  cases hf : fs[i]? with
  | none => rw [hf] at hi; cases hi
  | some f =>
    rw [hf] at hi
    obtain ⟨h1, h2⟩ : f.offset = o ∧ f.type = T := by simpa using hi
    obtain ⟨n, z, t0, w0⟩ := (field_of ht h hw).2 i f hf
    rw [h1, h2, hc] at t0
    rw [h2] at w0
    have hol : o < cs.length := (List.getElem?_eq_some_iff.1 hv).1
    have : (cs.drop o).take 1 = [c] := by
      rw [List.drop_eq_getElem_cons hol, (List.getElem?_eq_some_iff.1 hv).2]
      rfl
    rw [this] at t0
    exact ⟨n, z, t0, w0⟩
/-- a struct's field of more cells. -/
theorem field_some {fuel : Nat} {cs : List Value} {y : DataW H × List MemPlace} {fs : Array Field} (ht : P.underlying t = some (.struct fs)) (h : DataW.trod enc P W base (fun _ => true) held fuel t cs = some y) (hw : Wt P t y.1)
    (i o m : Nat) (T : TypeId) (ds : List Value) (hi : (fs[i]?.map fun f => (f.offset, f.type)) = some (o, T)) (hc : P.cellsOf T = m) (hv : (cs.drop o).take m = ds) :
    ∃ n z, DataW.trod enc P W base (fun _ => true) held n T ds = some z ∧ Wt P T z.1 := by
  cases hf : fs[i]? with
  | none => rw [hf] at hi; cases hi
  | some f =>
    rw [hf] at hi
    obtain ⟨h1, h2⟩ : f.offset = o ∧ f.type = T := by simpa using hi
    obtain ⟨n, z, t0, w0⟩ := (field_of ht h hw).2 i f hf
    rw [h1, h2, hc, hv] at t0
    rw [h2] at w0
    exact ⟨n, z, t0, w0⟩
theorem flat_row {c : Nat} : ∀ (rows : List (List Value)) (i j : Nat) (h : i < rows.length), (∀ r ∈ rows, r.length = c) → j < c → rows.flatten[i * c + j]? = rows[i][j]?
  | [], i, j, h, _, _ => by simp at h
  | r :: rs, 0, j, h, hr, hj => by
    rw [List.flatten_cons, List.getElem?_append_left (by rw [hr r (List.mem_cons_self ..)]; omega)]
    simp
  | r :: rs, i + 1, j, h, hr, hj => by
    have hrl := hr r (List.mem_cons_self ..)
    rw [List.flatten_cons, List.getElem?_append_right (by rw [hrl, Nat.add_mul]; omega), hrl, show (i + 1) * c + j - c = i * c + j by rw [Nat.add_mul]; omega,
      flat_row rs i j (by simpa using h) (fun x hx => hr x (List.mem_cons_of_mem _ hx)) hj]
    rfl
theorem flat_len {c : Nat} : ∀ (rows : List (List Value)), (∀ r ∈ rows, r.length = c) → rows.flatten.length = rows.length * c
  | [], _ => by simp
  | r :: rs, hr => by
    rw [List.flatten_cons, List.length_append, hr r (List.mem_cons_self ..), flat_len rs (fun x hx => hr x (List.mem_cons_of_mem _ hx)), List.length_cons, Nat.add_mul]
    omega
/-- a slice of structs of c cells. -/
theorem rows_of {fuel : Nat} {cs : List Value} {y : DataW H × List MemPlace} (ht : P.underlying t = some (.slice e)) (c : Nat) (hc : P.cellsOf e = c) (hc0 : 0 < c) (h : DataW.trod enc P W base (fun _ => true) held fuel t cs = some y) (hw : Wt P t y.1) :
    ∃ (v : Value) (rows : List (List Value)), cs = [v] ∧ CReads W.heap.size W v rows.length rows.flatten ∧ rows.length * P.bytesOf e ≤ reachBytes ∧ rows.length ≤ maxLen ∧
      ∀ r ∈ rows, r.length = c ∧ ∃ n z, DataW.trod enc P W base (fun _ => true) held n e r = some z ∧ Wt P e z.1 := by
  rcases open_slice ht h with ⟨rfl, rfl⟩ | ⟨a, len, cap, m, n, D, Pl, rfl, hb, hl, hm, hmm, rfl, hi⟩
  · exact ⟨_, [], rfl, ⟨none, 0, rfl, fun i u hi => by simp at hi⟩, by simp, by simp, fun r hr => by cases hr⟩
  · have hmc : m = cap := by simpa using hmm
    obtain ⟨hwl, hwe⟩ := wt_slice ht hw
    rw [hc] at hi
    obtain ⟨rows, hrl, hrows⟩ := list_of (fun i (r : List Value) => W.cells? base (a.add (i * c)) c = some r ∧ DataW.trod enc P W base (fun _ => true) held n e r = some (D i, Pl i)) len (fun i hil => by
      obtain ⟨cs', h1, h2⟩ := hi i (by omega)
      exact ⟨cs', h1, h2⟩)
    have hlens : ∀ r ∈ rows, r.length = c := fun r hr => by
      obtain ⟨i, hi', rfl⟩ := List.getElem_of_mem hr
      exact (World.cells?_some (hrows i hi').1).2.1
    refine ⟨_, rows, rfl, ?_, by simpa [hrl] using hwl, by omega, fun r hr => ⟨hlens r hr, ?_⟩⟩
    · obtain ⟨b, off, spot⟩ := a
      refine ⟨some ⟨b, off, spot⟩, cap, by rw [hrl], fun k u hk => ?_⟩
      have hkl : k < rows.length * c := by rw [← flat_len rows hlens]; exact (List.getElem?_eq_some_iff.1 hk).1
      have hic : k / c < rows.length := Nat.div_lt_of_lt_mul (by rw [Nat.mul_comm]; exact hkl)
      have hkc : k % c < c := Nat.mod_lt _ hc0
      have hke : k / c * c + k % c = k := by rw [Nat.mul_comm]; exact Nat.div_add_mod k c
      have h1 := flat_row rows (k / c) (k % c) hic hlens hkc
      rw [hke, hk] at h1
      obtain ⟨_, _, hat⟩ := World.cells?_some (hrows (k / c) hic).1
      have h2 := hat (k % c) hkc
      rw [← h1] at h2
      have h3 : W.cell? ((⟨b, off, spot⟩ : Addr).add k) = some u := by
        rw [← h2, add_add, hke]
      have hspot : spot = none := by
        have h0 : 0 < rows.length := Nat.lt_of_le_of_lt (Nat.zero_le _) hic
        obtain ⟨_, hl0, hat0⟩ := World.cells?_some (hrows 0 h0).1
        have h4 := hat0 0 hc0
        rw [List.getElem?_eq_getElem (show 0 < (rows[0]'h0).length by rw [hl0]; exact hc0)] at h4
        simpa [Addr.add] using World.cell?_spot h4
      subst hspot
      have hadd : (⟨b, off, none⟩ : Addr).add k = ⟨b, off + k, none⟩ := by unfold Addr.add; split <;> simp_all
      rw [hadd] at h3
      refine ⟨b, off, rfl, ?_, h3⟩
      simp only [World.cell?] at h3
      by_cases hlt : b < W.heap.size
      · exact hlt
      · rw [Array.getElem?_eq_none (by omega)] at h3; simp at h3
    · obtain ⟨i, hi', rfl⟩ := List.getElem_of_mem hr
      refine ⟨n, _, (hrows i hi').2, hwe _ ?_⟩
      exact List.mem_map.2 ⟨i, List.mem_range.2 (by omega), rfl⟩
end
end Go.Proofs.Yteefopeclfojiaa
/- 
  A struct variable of the call's own: what its block holds, behind stores and calls; results that lie in such a variable.
 -/
namespace Go.Proofs.Yteefopeclfojiaa
open Go.RowKit
theorem bt {a b c : World} (h : Below a.heap.size a b) (k : Below b.heap.size b c) : Below a.heap.size a c := h.trans (k.mono h.size)
/-- the block g holds just the cells cs, none of them frozen. -/
def BlkAt (w : World) (g : Nat) (cs : Array Value) : Prop := ∃ t, w.heap[g]? = some (.cells cs t (0, 0))
theorem BlkAt.new (w : World) (cs : Array Value) (t : TypeId) : BlkAt (w.alloc (.cells cs t)) w.heap.size cs := ⟨t, heap_alloc_new w _⟩
theorem BlkAt.cell {w : World} {g : Nat} {cs : Array Value} (h : BlkAt w g cs) (i : Nat) {v : Value} (hi : cs[i]? = some v) : w.cell? ⟨g, i, none⟩ = some v := by
  obtain ⟨t, h⟩ := h
  rw [cell_of_row w g i cs t _ h, hi]
theorem BlkAt.free {w : World} {g : Nat} {cs : Array Value} (h : BlkAt w g cs) (i : Nat) : w.frozen? ⟨g, i, none⟩ = false := by
  obtain ⟨t, h⟩ := h
  simp [World.frozen?, h]
theorem BlkAt.set {w : World} {g : Nat} {cs : Array Value} (h : BlkAt w g cs) (i : Nat) (v : Value) : BlkAt (w.setCell ⟨g, i, none⟩ v) g (cs.setIfInBounds i v) := by
  obtain ⟨t, h⟩ := h
  exact ⟨t, heap_setCell_same w g i cs t v h⟩
theorem BlkAt.far {w : World} {g : Nat} {cs : Array Value} (h : BlkAt w g cs) {p : Nat} (hne : g ≠ p) (i : Nat) (v : Value) : BlkAt (w.setCell ⟨p, i, none⟩ v) g cs := by
  obtain ⟨t, h⟩ := h
  exact ⟨t, by rw [heap_setCell_other w ⟨p, i, none⟩ g v hne, h]⟩
theorem BlkAt.drewN {w : World} {g : Nat} {cs : Array Value} (h : BlkAt w g cs) (n : Nat) : BlkAt (w.drewN n) g cs := h
theorem BlkAt.drew {w : World} {g : Nat} {cs : Array Value} (h : BlkAt w g cs) : BlkAt w.drew g cs := h
theorem BlkAt.lt {w : World} {g : Nat} {cs : Array Value} (h : BlkAt w g cs) : g < w.heap.size := by
  obtain ⟨t, h⟩ := h
  exact (Array.getElem?_eq_some_iff.1 h).1
theorem BlkAt.below {w w' : World} {g : Nat} {cs : Array Value} (h : BlkAt w g cs) {B : Nat} (hb : Below B w w') (hg : g < B) : BlkAt w' g cs := by
  obtain ⟨t, h⟩ := h
  exact ⟨t, (hb.block g hg).trans h⟩
theorem BlkAt.alloc {w : World} {g : Nat} {cs : Array Value} (h : BlkAt w g cs) (o : Obj) : BlkAt (w.alloc o) g cs := h.below ((Below.refl _ w).alloc (Nat.le_refl _) o) h.lt
theorem BlkAt.grown {w w' : World} {g : Nat} {cs : Array Value} (h : BlkAt w g cs) {row : Option Nat} (hg : w.grownBy w' row) (hne : some g ≠ row) : BlkAt w' g cs := by
  have hl := h.lt
  obtain ⟨t, h⟩ := h
  exact ⟨t, (hg.block g hl hne).trans h⟩
theorem results_cell2 {P : Program} {fn : Func} {p u : Tmp} {ty : TypeId} (h : fn.results = #[.cell p ty, .tmp u]) (tmps : Array Value) (w : World) (g : Nat) (cs : Array Value) (d : TypeDesc)
    (hp : tmps.getD p undef = .pointer (some ⟨g, 0, none⟩)) (hg : BlkAt w g cs)
    (hu : P.underlying ty = some d) (hd : (match d with | .struct _ | .array _ _ => true | _ => false) = true) (hi : (P.info? ty).map (·.size) = some cs.size) :
    (results fn tmps).run P w = .ok (.tuple #[.agg cs, tmps.getD u undef]) w := by
  obtain ⟨t, hg⟩ := hg
  have hp' : tmps[p]?.getD undef = .pointer (some ⟨g, 0, none⟩) := by simpa using hp
  simp [results, h, hp', asAddr, run_loadVar_row w g t ty cs _ d hg hu hd hi]
theorem results_cell3 {P : Program} {fn : Func} {p u v : Tmp} {ty : TypeId} (h : fn.results = #[.cell p ty, .tmp u, .tmp v]) (tmps : Array Value) (w : World) (g : Nat) (cs : Array Value) (d : TypeDesc)
    (hp : tmps.getD p undef = .pointer (some ⟨g, 0, none⟩)) (hg : BlkAt w g cs)
    (hu : P.underlying ty = some d) (hd : (match d with | .struct _ | .array _ _ => true | _ => false) = true) (hi : (P.info? ty).map (·.size) = some cs.size) :
    (results fn tmps).run P w = .ok (.tuple #[.agg cs, tmps.getD u undef, tmps.getD v undef]) w := by
  obtain ⟨t, hg⟩ := hg
  have hp' : tmps[p]?.getD undef = .pointer (some ⟨g, 0, none⟩) := by simpa using hp
  simp [results, h, hp', asAddr, run_loadVar_row w g t ty cs _ d hg hu hd hi]
end Go.Proofs.Yteefopeclfojiaa
/- 
  A map that the call itself has made, keyed by names (structs of two texts): its block as a list of pairs; look-up and store as equations.
 -/
namespace Go.Proofs.Yteefopeclfojiaa
open Go.RowKit
/-- a name as a value. -/
def nmV (k : ByteArray × ByteArray) : Value := .agg #[.string k.1, .string k.2]
theorem equal_name (W : World) (j k : ByteArray × ByteArray) : (Op.equal 24 (nmV j) (nmV k)).run Try.prog W = .ok (decide (j = k)) W := by
  unfold nmV
  show (Op.equalIn (9999 + 1) 24 _ _).run Try.prog W = _
  go_simp
  have ext : ∀ x y : ByteArray, x.toList = y.toList ↔ x = y := fun x y => ⟨fun h => by
    rw [ByteArray.toList_eq, ByteArray.toList_eq] at h
    exact ByteArray.ext (Array.toList_inj.1 h), fun h => by rw [h]⟩
  simp only [ext]
  by_cases h1 : j.1 = k.1
  · rw [if_pos h1]
    by_cases h2 : j.2 = k.2
    · rw [if_pos h2, decide_eq_true (Prod.ext h1 h2)]
    · rw [if_neg h2, decide_eq_false (fun e => h2 (by rw [e]))]
  · rw [if_neg h1, decide_eq_false (fun e => h1 (by rw [e]))]
theorem check_str (W : World) (em : Bool) (n : Nat) (s : ByteArray) : (Instr.checkKey em (n + 1) 9 (.string s)).run Try.prog W = .ok () W := by
  rw [Instr.checkKey]
  simp only [Sem.run_bind, run_underlying Try.underlying9, Result.andThen, Sem.run_pure]
theorem check_name (W : World) (em : Bool) (n : Nat) (k : ByteArray × ByteArray) : (Instr.checkKey em (n + 1 + 1) 24 (nmV k)).run Try.prog W = .ok () W := by
  unfold nmV
  rw [Instr.checkKey]
  simp only [Sem.run_bind, run_underlying Try.underlying24, Result.andThen]
  simp [go_sem]
  rw [check_str]
  simp only [Result.andThen]
  rw [check_str]
/-- block b is a map whose entries are these pairs, in the order of their birth. -/
def NMap (W : World) (b : Nat) (L : List ((ByteArray × ByteArray) × Value)) : Prop :=
  ∃ es clock, W.heap[b]? = some (.map es clock) ∧ es.toList.map (fun e => (e.key, e.val)) = L.map (fun p => (nmV p.1, p.2))
def nGet : List ((ByteArray × ByteArray) × Value) → ByteArray × ByteArray → Option Value
  | [], _ => none
  | p :: r, k => if k = p.1 then some p.2 else nGet r k
theorem find_asking (W : World) (k : ByteArray × ByteArray) : ∀ (es : List MapEntry) (L : List ((ByteArray × ByteArray) × Value)) (i : Nat), es.map (fun e => (e.key, e.val)) = L.map (fun p => (nmV p.1, p.2)) →
    (nGet L k = none ∧ (Instr.findAsking 24 (nmV k) es i).run Try.prog W = .ok none W) ∨
    (∃ v j, nGet L k = some v ∧ (Instr.findAsking 24 (nmV k) es i).run Try.prog W = .ok (some (i + j, v)) W)
  | [], L, i, h => by
    obtain rfl : L = [] := by simpa using h.symm
    exact .inl ⟨rfl, rfl⟩
  | e :: es, [], i, h => by simp at h
  | e :: es, p :: L, i, h => by
    simp only [List.map_cons, List.cons.injEq, Prod.mk.injEq] at h
    obtain ⟨⟨h1, h2⟩, h3⟩ := h
    have hq := equal_name W k p.1
    rw [← h1] at hq
    by_cases hk : k = p.1
    · right
      refine ⟨p.2, 0, by rw [nGet, if_pos hk], ?_⟩
      rw [Instr.findAsking]
      simp only [Sem.run_bind, hq, Result.andThen, decide_eq_true hk, if_true, Sem.run_pure, Nat.add_zero, h2]
    · rcases find_asking W k es L (i + 1) h3 with ⟨g1, g2⟩ | ⟨v, j, g1, g2⟩
      · left
        refine ⟨by rw [nGet, if_neg hk]; exact g1, ?_⟩
        rw [Instr.findAsking]
        simp only [Sem.run_bind, hq, Result.andThen, decide_eq_false hk]
        exact g2
      · right
        refine ⟨v, j + 1, by rw [nGet, if_neg hk]; exact g1, ?_⟩
        rw [Instr.findAsking]
        simp only [Sem.run_bind, hq, Result.andThen, decide_eq_false hk]
        rw [show i + (j + 1) = i + 1 + j by omega]
        exact g2
theorem find_key (W : World) (k : ByteArray × ByteArray) (es : List MapEntry) (L : List ((ByteArray × ByteArray) × Value)) (h : es.map (fun e => (e.key, e.val)) = L.map (fun p => (nmV p.1, p.2))) :
    (nGet L k = none ∧ (Instr.findKey 24 (nmV k) es).run Try.prog W = .ok none W) ∨
    (∃ v j, nGet L k = some v ∧ (Instr.findKey 24 (nmV k) es).run Try.prog W = .ok (some (j, v)) W) := by
  cases es with
  | nil =>
    obtain rfl : L = [] := by simpa using h.symm
    refine .inl ⟨rfl, ?_⟩
    simp [Instr.findKey, run_underlying Try.underlying24, Instr.findNow, Result.andThen]
  | cons e es =>
    have hn : ∀ d, Instr.findNow (.struct d) (nmV k) (e :: es) 0 = none := fun d => by
      unfold Instr.findNow nmV
      rfl
    have hf : (Instr.findKey 24 (nmV k) (e :: es)).run Try.prog W = (Instr.findAsking 24 (nmV k) (e :: es) 0).run Try.prog W := by
      unfold Instr.findKey
      simp only [Sem.run_bind, run_underlying Try.underlying24, Result.andThen, hn]
    rw [hf]
    rcases find_asking W k (e :: es) L 0 h with ⟨g1, g2⟩ | ⟨v, j, g1, g2⟩
    · exact .inl ⟨g1, g2⟩
    · exact .inr ⟨v, 0 + j, g1, g2⟩
theorem NMap.lookup {W : World} {b : Nat} {L : List ((ByteArray × ByteArray) × Value)} (h : NMap W b L) {t et : TypeId} (ht : Try.prog.underlying t = some (.map 24 et)) (z : Value)
    (hz : (zeroValue et).run Try.prog W = .ok z W) (k : ByteArray × ByteArray) :
    (Instr.lookup t (.map (some b)) (nmV k) false).run Try.prog W = .ok ((nGet L k).getD z) W := by
  obtain ⟨es, clock, hb, hL⟩ := h
  have hg := MapKept.run_getObj_map (P := Try.prog) hb
  have hck : ∀ em, (Instr.checkKey em 10000 24 (nmV k)).run Try.prog W = .ok () W := fun em => check_name W em 9998 k
  rcases find_key W k es.toList L hL with ⟨g1, g2⟩ | ⟨v, j, g1, g2⟩
  · simp [Instr.lookup, run_underlying ht, hg, hck, g2, hz, g1, Result.andThen]
  · simp [Instr.lookup, run_underlying ht, hg, hck, g2, g1, Result.andThen]
open Go.ChangeMaps in
theorem NMap.push {W : World} {b : Nat} {L : List ((ByteArray × ByteArray) × Value)} (h : NMap W b L) {t et : TypeId} (ht : Try.prog.underlying t = some (.map 24 et)) (k : ByteArray × ByteArray) (v : Value) (hn : nGet L k = none) :
    ∃ w', (Instr.mapUpdate t (.map (some b)) (nmV k) v).run Try.prog W = .ok () w' ∧ NMap w' b (L ++ [(k, v)]) ∧ W.grownBy w' (some b) := by
  obtain ⟨es, clock, hb, hL⟩ := h
  have hg := MapKept.run_getObj_map (P := Try.prog) hb
  have hck : ∀ em, (Instr.checkKey em 10000 24 (nmV k)).run Try.prog W = .ok () W := fun em => check_name W em 9998 k
  have hgr : ∀ o : Obj, W.grownBy (setBlock W b o) (some b) := fun o => ⟨rfl, rfl, rfl, by simp [setBlock], fun i _ hi => heap_setBlock_other hb _ (fun e => hi (by rw [e]))⟩
  rcases find_key W k es.toList L hL with ⟨g1, g2⟩ | ⟨u, j, g1, g2⟩
  · refine ⟨setBlock W b (.map (es.push { key := nmV k, val := v, born := clock }) (clock + 1)), ?_, ⟨_, _, heap_setBlock_same hb _, ?_⟩, hgr _⟩
    · simp [Instr.mapUpdate, run_underlying ht, hg, hck, g2, MapKept.run_setObj_map _ hb, Result.andThen, setBlock]
    · simp [hL]
  · rw [hn] at g1; cases g1
theorem NMap.kept {W W' : World} {b : Nat} {L : List ((ByteArray × ByteArray) × Value)} (h : NMap W b L) {row : Option Nat} (hg : W.grownBy W' row) (hne : some b ≠ row) : NMap W' b L := by
  obtain ⟨es, clock, hb, hL⟩ := h
  exact ⟨es, clock, (hg.block b (Array.getElem?_eq_some_iff.1 hb).1 hne).trans hb, hL⟩
theorem NMap.lt {W : World} {b : Nat} {L : List ((ByteArray × ByteArray) × Value)} (h : NMap W b L) : b < W.heap.size := by
  obtain ⟨es, clock, hb, _⟩ := h
  exact (Array.getElem?_eq_some_iff.1 hb).1
theorem NMap.below {W W' : World} {b : Nat} {L : List ((ByteArray × ByteArray) × Value)} (h : NMap W b L) {B : Nat} (hb : Below B W W') (hB : W.heap.size ≤ B) : NMap W' b L := by
  obtain ⟨es, clock, he, hL⟩ := h
  exact ⟨es, clock, (hb.block b (Nat.lt_of_lt_of_le (Array.getElem?_eq_some_iff.1 he).1 hB)).trans he, hL⟩
theorem NMap.made (W : World) : NMap (W.alloc (.map #[] 0)) W.heap.size [] := ⟨#[], 0, heap_alloc_new W _, rfl⟩
theorem NMap.alloc {W : World} {b : Nat} {L : List ((ByteArray × ByteArray) × Value)} (h : NMap W b L) (o : Obj) : NMap (W.alloc o) b L := h.kept (World.grownBy_alloc W o none) (by simp)
end Go.Proofs.Yteefopeclfojiaa
/- 
  Layer 16: events as rows of cells; arguments opened.
 -/
namespace Go.Proofs.Yteefopeclfojiaa
open Go.RowKit Go.ChangeShapes Go.WideShapes Go.Deep
/-- an attribute: its name (space, local), its value. -/
abbrev AtT : Type := (ByteArray × ByteArray) × ByteArray
/-- an event: its kind, name, attributes, text. -/
structure Evt where
  k : Int
  n : ByteArray × ByteArray
  at_ : List AtT
  tx : ByteArray
/-- an event's cells; its attributes lie behind the slice av. -/
def evC (e : Evt) (av : Value) : List Value := [.int .i8 e.k, .string e.n.1, .string e.n.2, av, .string e.tx]
def atC (l : List AtT) : List Value := l.flatMap fun a => [.string a.1.1, .string a.1.2, .string a.2]
/-- an event by value. -/
def evV (e : Evt) (av : Value) : Value := .agg #[.int .i8 e.k, .string e.n.1, .string e.n.2, av, .string e.tx]
def evsC : List Evt → List Value → List Value
  | e :: es, a :: as_ => evC e a ++ evsC es as_
  | _, _ => []
/-- the attributes of events are read behind their slices. -/
def AtsR (B : Nat) (w : World) : List Evt → List Value → Prop
  | [], [] => True
  | e :: es, a :: as_ => CReads B w a e.at_.length (atC e.at_) ∧ AtsR B w es as_
  | _, _ => False
/-- the slice value reads as these events. -/
def EvsR (B : Nat) (w : World) (v : Value) (es : List Evt) : Prop := ∃ avs, CReads B w v es.length (evsC es avs) ∧ AtsR B w es avs
theorem AtsR.below {B C : Nat} {w w' : World} (hb : Below C w w') (hBC : B ≤ C) : ∀ {es : List Evt} {avs : List Value}, AtsR B w es avs → AtsR B w' es avs
  | [], [], _ => trivial
  | _ :: _, _ :: _, h => ⟨h.1.below hb hBC, AtsR.below hb hBC h.2⟩
theorem AtsR.mono {B C : Nat} {w : World} (hBC : B ≤ C) : ∀ {es : List Evt} {avs : List Value}, AtsR B w es avs → AtsR C w es avs
  | [], [], _ => trivial
  | _ :: _, _ :: _, h => ⟨h.1.mono hBC, AtsR.mono hBC h.2⟩
theorem EvsR.below {B : Nat} {w w' : World} {v : Value} {es : List Evt} (h : EvsR B w v es) {C : Nat} (hb : Below C w w') (hBC : B ≤ C) : EvsR B w' v es := by
  obtain ⟨avs, h1, h2⟩ := h
  exact ⟨avs, h1.below hb hBC, h2.below hb hBC⟩
theorem EvsR.mono {B C : Nat} {w : World} {v : Value} {es : List Evt} (h : EvsR B w v es) (hBC : B ≤ C) : EvsR C w v es := by
  obtain ⟨avs, h1, h2⟩ := h
  exact ⟨avs, h1.mono hBC, h2.mono hBC⟩
theorem EvsR.up {w w' : World} {v : Value} {es : List Evt} (h : EvsR w.heap.size w v es) (hb : Below w.heap.size w w') : EvsR w'.heap.size w' v es := (h.below hb (Nat.le_refl _)).mono hb.size
theorem evsC_at : ∀ (es : List Evt) (avs : List Value) (k : Nat) (e : Evt) (a : Value), es[k]? = some e → avs[k]? = some a → ∀ j u, (evC e a)[j]? = some u → (evsC es avs)[k * 5 + j]? = some u
  | [], _, k, e, a, h, _, _, _, _ => by simp at h
  | _ :: _, [], k, e, a, _, h, _, _, _ => by simp at h
  | x :: es, y :: as_, 0, e, a, h1, h2, j, u, hj => by
    simp at h1 h2
    subst h1
    subst h2
    rw [evsC, Nat.zero_mul, Nat.zero_add, List.getElem?_append_left (List.getElem?_eq_some_iff.1 hj).1]
    exact hj
  | x :: es, y :: as_, k + 1, e, a, h1, h2, j, u, hj => by
    have ih := evsC_at es as_ k e a (by simpa using h1) (by simpa using h2) j u hj
    rw [evsC, List.getElem?_append_right (by show 5 ≤ _; omega)]
    rw [show (k + 1) * 5 + j - (evC x y).length = k * 5 + j by show (k + 1) * 5 + j - 5 = _; omega]
    exact ih
theorem AtsR.get {B : Nat} {w : World} : ∀ {es : List Evt} {avs : List Value} (k : Nat) (e : Evt), AtsR B w es avs → es[k]? = some e → ∃ a, avs[k]? = some a ∧ CReads B w a e.at_.length (atC e.at_)
  | [], _, k, e, _, h => by simp at h
  | _ :: _, [], k, e, h, _ => h.elim
  | x :: es, y :: as_, 0, e, h, h1 => by simp at h1; subst h1; exact ⟨y, rfl, h.1⟩
  | x :: es, y :: as_, k + 1, e, h, h1 => by
    obtain ⟨a, h2, h3⟩ := AtsR.get k e h.2 (by simpa using h1)
    exact ⟨a, by simpa using h2, h3⟩
/-- the event at k, read. -/
theorem EvsR.get {B : Nat} {w : World} {v : Value} {es : List Evt} (h : EvsR B w v es) {C : Nat} {wr : World} (hb : Below C w wr) (hBC : B ≤ C) (k : Nat) (e : Evt) (hk : es[k]? = some e) :
    ∃ b off cap av, v = .slice (some ⟨b, off, none⟩) es.length cap ∧ b < B ∧ wr.cell? ⟨b, off + k * 5, none⟩ = some (.int .i8 e.k) ∧ wr.cell? ⟨b, off + k * 5 + 1, none⟩ = some (.string e.n.1) ∧ wr.cell? ⟨b, off + k * 5 + 2, none⟩ = some (.string e.n.2) ∧
      wr.cell? ⟨b, off + k * 5 + 3, none⟩ = some av ∧ wr.cell? ⟨b, off + k * 5 + 4, none⟩ = some (.string e.tx) ∧ CReads B wr av e.at_.length (atC e.at_) := by
  obtain ⟨avs, hr, ha⟩ := h
  obtain ⟨av, h1, h2⟩ := ha.get k e hk
  obtain ⟨a, cap, rfl, hc⟩ := hr
  have hat := evsC_at es avs k e av hk h1
  obtain ⟨b, off, rfl, hbB, c0⟩ := hc _ _ (hat 0 _ rfl)
  have get : ∀ j u, (evC e av)[j]? = some u → wr.cell? ⟨b, off + (k * 5 + j), none⟩ = some u := fun j u hj => by
    obtain ⟨b', off', hbb, _, c1⟩ := hc _ _ (hat j u hj)
    cases hbb
    exact (hb.cell (p := ⟨b, off + (k * 5 + j), none⟩) (by show b < _; omega)).trans c1
  refine ⟨b, off, cap, av, rfl, hbB, get 0 _ rfl, get 1 _ rfl, get 2 _ rfl, get 3 _ rfl, get 4 _ rfl, h2.below hb hBC⟩
/-- the attribute at k, read. -/
theorem atC_at : ∀ (l : List AtT) (k : Nat) (a : AtT), l[k]? = some a → (atC l)[k * 3]? = some (.string a.1.1) ∧ (atC l)[k * 3 + 1]? = some (.string a.1.2) ∧ (atC l)[k * 3 + 2]? = some (.string a.2)
  | [], k, a, h => by simp at h
  | x :: r, 0, a, h => by simp at h; subst h; exact ⟨rfl, rfl, rfl⟩
  | x :: r, k + 1, a, h => by
    have ih := atC_at r k a (by simpa using h)
    show ([Value.string x.1.1, .string x.1.2, .string x.2] ++ atC r)[(k + 1) * 3]? = _ ∧ ([Value.string x.1.1, .string x.1.2, .string x.2] ++ atC r)[(k + 1) * 3 + 1]? = _ ∧ ([Value.string x.1.1, .string x.1.2, .string x.2] ++ atC r)[(k + 1) * 3 + 2]? = _
    rw [show (k + 1) * 3 = k * 3 + 3 by omega, show k * 3 + 3 + 1 = (k * 3 + 1) + 3 by omega, show k * 3 + 3 + 2 = (k * 3 + 2) + 3 by omega]
    exact ih
theorem CReads.attr {B : Nat} {w : World} {v : Value} {n : Nat} {l : List AtT} (h : CReads B w v n (atC l)) {C : Nat} {wr : World} (hb : Below C w wr) (hBC : B ≤ C) (k : Nat) (a : AtT) (hk : l[k]? = some a) :
    ∃ b off cap, v = .slice (some ⟨b, off, none⟩) n cap ∧ wr.cell? ⟨b, off + k * 3, none⟩ = some (.string a.1.1) ∧ wr.cell? ⟨b, off + k * 3 + 1, none⟩ = some (.string a.1.2) ∧ wr.cell? ⟨b, off + k * 3 + 2, none⟩ = some (.string a.2) := by
  obtain ⟨h0, h1, h2⟩ := atC_at l k a hk
  obtain ⟨a, cap, rfl, hc⟩ := h
  obtain ⟨b, off, rfl, hbB, c0⟩ := hc _ _ h0
  obtain ⟨b1, off1, hbb, _, c1⟩ := hc _ _ h1
  cases hbb
  obtain ⟨b2, off2, hbb, _, c2⟩ := hc _ _ h2
  cases hbb
  exact ⟨b, off, cap, rfl, (hb.cell (p := ⟨b, off + k * 3, none⟩) (by show b < _; omega)).trans c0, (hb.cell (p := ⟨b, off + (k * 3 + 1), none⟩) (by show b < _; omega)).trans c1, (hb.cell (p := ⟨b, off + (k * 3 + 2), none⟩) (by show b < _; omega)).trans c2⟩
/-! arguments opened -/
section
variable {H : Type} {enc : TypeId × Value → H} {W : World} {b0 base : Nat} {held : Bool}
/-- no part of an event is too long. -/
def EvtZ (e : Evt) : Prop := e.n.1.size ≤ reachBytes ∧ e.n.2.size ≤ reachBytes ∧ e.tx.size ≤ reachBytes ∧ e.at_.length ≤ reachBytes ∧ (∀ a ∈ e.at_, a.1.1.size ≤ reachBytes ∧ a.1.2.size ≤ reachBytes ∧ a.2.size ≤ reachBytes) ∧ (Lit.int .i8 e.k).wf = true
theorem open_name {fuel : Nat} {x0 x1 : Value} {z : DataW H × List MemPlace} (tr : DataW.trod enc Try.prog W base (fun _ => true) held fuel 24 [x0, x1] = some z) (wr : Wt Try.prog 24 z.1) :
    ∃ a b : ByteArray, x0 = .string a ∧ x1 = .string b ∧ a.size ≤ reachBytes ∧ b.size ≤ reachBytes := by
  obtain ⟨n0, z0, t0, w0⟩ := field_one Try.underlying24 tr wr 0 0 9 x0 rfl (by kernel_rfl) rfl
  obtain ⟨n1, z1, t1, w1⟩ := field_one Try.underlying24 tr wr 1 1 9 x1 rfl (by kernel_rfl) rfl
  obtain ⟨a, ha, hz⟩ := leaf_string Try.underlying9 t0 w0
  obtain ⟨b, hb, hz'⟩ := leaf_string Try.underlying9 t1 w1
  exact ⟨a, b, by simpa using ha, by simpa using hb, hz, hz'⟩
theorem rows_attrs {m : Nat} : ∀ rows : List (List Value), (∀ r ∈ rows, ∃ a : AtT, r = [.string a.1.1, .string a.1.2, .string a.2] ∧ a.1.1.size ≤ m ∧ a.1.2.size ≤ m ∧ a.2.size ≤ m) →
    ∃ q : List AtT, q.length = rows.length ∧ rows.flatten = atC q ∧ ∀ x ∈ q, x.1.1.size ≤ m ∧ x.1.2.size ≤ m ∧ x.2.size ≤ m
  | [], _ => ⟨[], rfl, rfl, fun x h => by cases h⟩
  | r :: rs, h => by
    obtain ⟨a, rfl, h1⟩ := h r (List.mem_cons_self ..)
    obtain ⟨q, hl, hf, hz⟩ := rows_attrs rs fun x hx => h x (List.mem_cons_of_mem _ hx)
    refine ⟨a :: q, by simp [hl], ?_, fun x hx => ?_⟩
    · rw [List.flatten_cons, hf]; rfl
    · rcases List.mem_cons.1 hx with rfl | hx
      · exact h1
      · exact hz x hx
theorem open_attrs {fuel : Nat} {x : Value} {z : DataW H × List MemPlace} (tr : DataW.trod enc Try.prog W base (fun _ => true) held fuel 28 [x] = some z) (wr : Wt Try.prog 28 z.1) :
    ∃ q : List AtT, CReads W.heap.size W x q.length (atC q) ∧ q.length ≤ reachBytes ∧ ∀ a ∈ q, a.1.1.size ≤ reachBytes ∧ a.1.2.size ≤ reachBytes ∧ a.2.size ≤ reachBytes := by
  obtain ⟨y, rows, hy, hr, hb, hm, hrs⟩ := rows_of Try.underlying28 3 (by kernel_rfl) (by decide) tr wr
  have e1 : x = y := by simpa using hy
  subst e1
  have hrow : ∀ r ∈ rows, ∃ a : AtT, r = [.string a.1.1, .string a.1.2, .string a.2] ∧ a.1.1.size ≤ reachBytes ∧ a.1.2.size ≤ reachBytes ∧ a.2.size ≤ reachBytes := fun r hr => by
    obtain ⟨hl2, n, z, tr, wr⟩ := hrs r hr
    match r, hl2, tr with
    | [x0, x1, x2], _, tr =>
      obtain ⟨n0, z0, t0, w0⟩ := field_some Try.underlying58 tr wr 0 0 2 24 [x0, x1] rfl (by kernel_rfl) rfl
      obtain ⟨n1, z1, t1, w1⟩ := field_one Try.underlying58 tr wr 1 2 9 x2 rfl (by kernel_rfl) rfl
      obtain ⟨a, b, rfl, rfl, g1, g2⟩ := open_name t0 w0
      obtain ⟨c, hc, g3⟩ := leaf_string Try.underlying9 t1 w1
      have e2 : x2 = .string c := by simpa using hc
      exact ⟨((a, b), c), by rw [e2], g1, g2, g3⟩
  obtain ⟨q, hq, hfl, hqz⟩ := rows_attrs rows hrow
  refine ⟨q, by rw [hq, ← hfl]; exact hr, ?_, hqz⟩
  rw [hq]
  rw [show Try.prog.bytesOf 58 = 48 by kernel_rfl] at hb
  omega
theorem open_event {fuel : Nat} {r : List Value} {z : DataW H × List MemPlace} (hl : r.length = 5) (tr : DataW.trod enc Try.prog W base (fun _ => true) held fuel 30 r = some z) (wr : Wt Try.prog 30 z.1) :
    ∃ (e : Evt) (av : Value), r = evC e av ∧ EvtZ e ∧ CReads W.heap.size W av e.at_.length (atC e.at_) := by
  match r, hl, tr with
  | [x0, x1, x2, x3, x4], _, tr =>
    obtain ⟨n0, z0, t0, w0⟩ := field_one Try.underlying30 tr wr 0 0 27 x0 rfl (by kernel_rfl) rfl
    obtain ⟨n1, z1, t1, w1⟩ := field_some Try.underlying30 tr wr 1 1 2 24 [x1, x2] rfl (by kernel_rfl) rfl
    obtain ⟨n2, z2, t2, w2⟩ := field_one Try.underlying30 tr wr 2 3 28 x3 rfl (by kernel_rfl) rfl
    obtain ⟨n3, z3, t3, w3⟩ := field_one Try.underlying30 tr wr 3 4 9 x4 rfl (by kernel_rfl) rfl
    obtain ⟨k, hk, -, hkw⟩ := DataW.trod_int Try.underlying27 t0
    obtain ⟨a, b, rfl, rfl, g1, g2⟩ := open_name t1 w1
    obtain ⟨q, q1, q2, q3⟩ := open_attrs t2 w2
    obtain ⟨c, hc, g3⟩ := leaf_string Try.underlying9 t3 w3
    have e0 : x0 = .int .i8 k := by simpa using hk
    have e4 : x4 = .string c := by simpa using hc
    exact ⟨⟨k, (a, b), q, c⟩, x3, by rw [e0, e4]; rfl, ⟨g1, g2, g3, q2, q3, hkw⟩, q1⟩
theorem rows_events : ∀ rows : List (List Value), (∀ r ∈ rows, ∃ (e : Evt) (av : Value), r = evC e av ∧ EvtZ e ∧ CReads W.heap.size W av e.at_.length (atC e.at_)) →
    ∃ (es : List Evt) (avs : List Value), es.length = rows.length ∧ rows.flatten = evsC es avs ∧ AtsR W.heap.size W es avs ∧ ∀ e ∈ es, EvtZ e
  | [], _ => ⟨[], [], rfl, rfl, trivial, fun e h => by cases h⟩
  | r :: rs, h => by
    obtain ⟨e, av, rfl, h1, h2⟩ := h r (List.mem_cons_self ..)
    obtain ⟨es, avs, hl, hf, ha, hz⟩ := rows_events rs fun x hx => h x (List.mem_cons_of_mem _ hx)
    refine ⟨e :: es, av :: avs, by simp [hl], ?_, ⟨h2, ha⟩, fun x hx => ?_⟩
    · rw [List.flatten_cons, hf]; rfl
    · rcases List.mem_cons.1 hx with rfl | hx
      · exact h1
      · exact hz x hx
/-- events that came in. -/
structure EvsAt (W : World) (v : Value) (es : List Evt) : Prop where
  r : EvsR W.heap.size W v es
  n : es.length ≤ reachBytes
  z : ∀ e ∈ es, EvtZ e
set_option maxRecDepth 100000 in
theorem open_events {r : Reach} {v : Value} {d : DataW H} {p : List MemPlace} (hv : Value.okWide Try.prog W r b0 22 v) (h : DataW.Trod enc Try.prog W base (fun _ => true) held 22 v d p) (hw : Wt Try.prog 22 d) :
    ∃ es : List Evt, EvsAt W v es := by
  obtain ⟨a, len, cap, rfl⟩ := okWide_slice Try.underlying22 hv
  obtain ⟨fuel, hf⟩ := h
  obtain ⟨y, rows, hy, hr, hb, hm, hrs⟩ := rows_of Try.underlying22 5 (by kernel_rfl) (by decide) hf hw
  have e1 : Value.slice a len cap = y := by simpa [Value.cells] using hy
  subst e1
  obtain ⟨es, avs, hl, hfl, ha, hz⟩ := rows_events rows fun r hr => by
    obtain ⟨hl2, n, z, tr, wr⟩ := hrs r hr
    exact open_event hl2 tr wr
  refine ⟨es, ⟨avs, by rw [hl, ← hfl]; exact hr, ha⟩, ?_, hz⟩
  rw [hl]
  rw [show Try.prog.bytesOf 30 = 80 by kernel_rfl] at hb
  omega
set_option maxRecDepth 100000 in
theorem open_eventV {r : Reach} {v : Value} {d : DataW H} {p : List MemPlace} (hv : Value.okWide Try.prog W r b0 30 v) (h : DataW.Trod enc Try.prog W base (fun _ => true) held 30 v d p) (hw : Wt Try.prog 30 d) :
    ∃ (e : Evt) (av : Value), v = evV e av ∧ EvtZ e ∧ CReads W.heap.size W av e.at_.length (atC e.at_) := by
  obtain ⟨cs, rfl, hsz⟩ := okWide_struct Try.underlying30 hv
  obtain ⟨fuel, hf⟩ := h
  obtain ⟨hl, -⟩ := field_of Try.underlying30 hf hw
  rw [show Try.prog.cellsOf 30 = 5 by kernel_rfl] at hl
  obtain ⟨l⟩ := cs
  obtain ⟨e, av, h1, h2, h3⟩ := open_event hl hf hw
  refine ⟨e, av, ?_, h2, h3⟩
  have h1 : l = evC e av := h1
  rw [h1]
  rfl
set_option maxRecDepth 100000 in
theorem open_nameV {r : Reach} {v : Value} {d : DataW H} {p : List MemPlace} (hv : Value.okWide Try.prog W r b0 24 v) (h : DataW.Trod enc Try.prog W base (fun _ => true) held 24 v d p) (hw : Wt Try.prog 24 d) :
    ∃ n : ByteArray × ByteArray, v = .agg #[.string n.1, .string n.2] ∧ n.1.size ≤ reachBytes ∧ n.2.size ≤ reachBytes := by
  obtain ⟨cs, rfl, hsz⟩ := okWide_struct Try.underlying24 hv
  obtain ⟨fuel, hf⟩ := h
  obtain ⟨hl, -⟩ := field_of Try.underlying24 hf hw
  rw [show Try.prog.cellsOf 24 = 2 by kernel_rfl] at hl
  obtain ⟨l⟩ := cs
  match l, hl, hf with
  | [x0, x1], _, hf =>
    obtain ⟨a, b, rfl, rfl, g1, g2⟩ := open_name hf hw
    exact ⟨(a, b), rfl, g1, g2⟩
end
end Go.Proofs.Yteefopeclfojiaa
/- 
  Layer 16 in plain terms: an event's fields; events that are whole.
 -/
namespace Go.Proofs.Yteefopeclfojiaa
open Go.RowKit
def emB (s : ByteArray) : Bool := s.toList.isEmpty
theorem emB_eq (s : ByteArray) : (s.toList == []) = emB s := by unfold emB; cases s.toList <;> rfl
theorem emB_ne (s : ByteArray) : (s.toList != []) = !emB s := by unfold emB; cases s.toList <;> rfl
/-- is a name among these? -/
def inL (k : ByteArray × ByteArray) (l : List (ByteArray × ByteArray)) : Bool := l.any fun n => decide (k = n)
/-- attributes' names: none twice, none without a local part. -/
def attGo : List (ByteArray × ByteArray) → List AtT → Bool
  | _, [] => true
  | seen, a :: r => !inL a.1 seen && !emB a.1.2 && attGo (seen ++ [a.1]) r
/-- an event's fields are those of its kind. -/
def fldB (e : Evt) : Bool :=
  if e.k = 2 then emB e.n.1 && emB e.n.2 && e.at_.isEmpty && !emB e.tx
  else if e.k = 1 then !emB e.n.2 && e.at_.isEmpty && emB e.tx
  else if e.k = 0 then attGo [] e.at_ && !emB e.n.2 && emB e.tx
  else false
/-- events that are gone through: the places of the elements that are open, the ends, how deep it was. -/
structure Gr where
  op : List Int
  ends : List (Int × Value)
  deep : Nat
/-- one event more, whose fields are right: its kind, its name. -/
def gbody (es : List Evt) (i : Nat) (k : Int) (nm : ByteArray × ByteArray) (g : Gr) : Option Gr :=
  if g.op = [] ∧ (0 < i ∨ k ≠ 0) then none
  else if k = 0 then some ⟨g.op ++ [(i : Int)], g.ends, max g.deep (g.op.length + 1)⟩
  else if k = 2 then (if (es[i - 1]?).map Evt.k = some 2 then none else some g)
  else match g.op.getLast? with
    | none => none
    | some t => if (es[t.toNat]?).map Evt.n = some nm then some ⟨g.op.dropLast, aPut g.ends t (.int .i64 i), g.deep⟩ else none
/-- one event more. -/
def gstep (es : List Evt) (i : Nat) (x : Evt) (g : Gr) : Option Gr := if fldB x = false then none else gbody es i x.k x.n g
def grun (es : List Evt) : Nat → List Evt → Gr → Option Gr
  | _, [], g => some g
  | i, x :: r, g => (gstep es i x g).bind (grun es (i + 1) r)
def gfin (es : List Evt) (g : Gr) : Option Gr := if es = [] ∨ g.op ≠ [] then none else some g
/-- events that are whole: their ends, how deep they are. -/
def growP (es : List Evt) : Option Gr := (grun es 0 es ⟨[], [], 0⟩).bind (gfin es)
end Go.Proofs.Yteefopeclfojiaa
/- 
  Layer 16: the walk of events.fields.
 -/
namespace Go.Proofs.Yteefopeclfojiaa
open Go.RowKit
/-- names that were seen, as a map's pairs. -/
def seenM (l : List (ByteArray × ByteArray)) : List ((ByteArray × ByteArray) × Value) := l.map fun n => (n, .bool true)
theorem seenM_get (k : ByteArray × ByteArray) : ∀ l, nGet (seenM l) k = if inL k l then some (.bool true) else none
  | [] => rfl
  | n :: r => by
    have ih := seenM_get k r
    show (if k = n then some (Value.bool true) else nGet (seenM r) k) = _
    rw [ih]
    unfold inL
    rw [List.any_cons]
    by_cases h : k = n
    · rw [if_pos h, decide_eq_true h, Bool.true_or, if_pos rfl]
    · rw [if_neg h, decide_eq_false h, Bool.false_or]
theorem seenM_snoc (l : List (ByteArray × ByteArray)) (n : ByteArray × ByteArray) : seenM (l ++ [n]) = seenM l ++ [(n, .bool true)] := by simp [seenM]
theorem zBool (w : World) : (zeroValue 4).run Try.prog w = .ok (.bool false) w := by kernel_rfl
theorem seen_look {W : World} {b : Nat} {l : List (ByteArray × ByteArray)} (h : NMap W b (seenM l)) (x y : ByteArray) :
    (Instr.lookup 131 (.map (some b)) (.agg #[.string x, .string y]) false).run Try.prog W = .ok (.bool (inL (x, y) l)) W := by
  have h1 := h.lookup (t := 131) Try.underlying131 (.bool false) (zBool W) (x, y)
  rw [seenM_get] at h1
  rw [show nmV (x, y) = .agg #[.string x, .string y] from rfl] at h1
  rw [h1]
  cases inL (x, y) l <;> rfl
theorem seen_push {W : World} {b : Nat} {l : List (ByteArray × ByteArray)} (h : NMap W b (seenM l)) (x y : ByteArray) (hn : inL (x, y) l = false) :
    ∃ w', (Instr.mapUpdate 131 (.map (some b)) (.agg #[.string x, .string y]) (.bool true)).run Try.prog W = .ok () w' ∧ NMap w' b (seenM (l ++ [(x, y)])) ∧ W.grownBy w' (some b) := by
  obtain ⟨w', h1, h2, h3⟩ := h.push (t := 131) Try.underlying131 (x, y) (.bool true) (by rw [seenM_get, hn]; rfl)
  exact ⟨w', h1, by rw [seenM_snoc]; exact h2, h3⟩
set_option maxRecDepth 100000 in
set_option maxHeartbeats 4000000 in
theorem events_fields2 (e : Evt) (a : Option Addr) (n c : Nat) (w : World) (hk : e.k = 2) (hn : e.at_.length = n) :
    Calls Try.prog 95 #[evV e (.slice a n c)] w fun r w' => r = .returned (.bool (fldB e)) ∧ Below w.heap.size w w' := by
  obtain ⟨k, ⟨n1, n2⟩, at_, tx⟩ := e
  simp only at hk hn
  subst hk
  have hf : fldB ⟨2, (n1, n2), at_, tx⟩ = (emB n1 && emB n2 && decide (n = 0) && !emB tx) := by
    unfold fldB
    rw [if_pos rfl]
    subst hn
    cases at_ <;> rfl
  rw [hf]
  unfold evV
  have hb := fun n => (Below.refl w.heap.size w).alloc (Nat.le_refl _) (.cells #[.int .i8 2, .string n1, .string n2, .slice a n c, .string tx] 30)
  clear hf hn
  go_enter Try.func95, Try.ntmps95
  go_wp2_with fail
  all_goals
    go_ret
    exact ⟨ret_bool (by simp_all [emB]), hb _⟩
set_option maxRecDepth 100000 in
set_option maxHeartbeats 4000000 in
theorem events_fields1 (e : Evt) (a : Option Addr) (n c : Nat) (w : World) (hk : e.k = 1) (hn : e.at_.length = n) :
    Calls Try.prog 95 #[evV e (.slice a n c)] w fun r w' => r = .returned (.bool (fldB e)) ∧ Below w.heap.size w w' := by
  obtain ⟨k, ⟨n1, n2⟩, at_, tx⟩ := e
  simp only at hk hn
  subst hk
  have hf : fldB ⟨1, (n1, n2), at_, tx⟩ = (!emB n2 && decide (n = 0) && emB tx) := by
    unfold fldB
    rw [if_neg (by show ¬ (1 : Int) = 2; decide), if_pos rfl]
    subst hn
    cases at_ <;> rfl
  rw [hf]
  unfold evV
  have hb := fun n => (Below.refl w.heap.size w).alloc (Nat.le_refl _) (.cells #[.int .i8 1, .string n1, .string n2, .slice a n c, .string tx] 30)
  clear hf hn
  go_enter Try.func95, Try.ntmps95
  go_wp2_with fail
  all_goals
    go_ret
    exact ⟨ret_bool (by simp_all [emB]), hb _⟩
set_option maxRecDepth 100000 in
set_option maxHeartbeats 4000000 in
theorem events_fields3 (e : Evt) (a : Option Addr) (n c : Nat) (w : World) (h0 : e.k ≠ 0) (h1 : e.k ≠ 1) (h2 : e.k ≠ 2) :
    Calls Try.prog 95 #[evV e (.slice a n c)] w fun r w' => r = .returned (.bool (fldB e)) ∧ Below w.heap.size w w' := by
  obtain ⟨k, ⟨n1, n2⟩, at_, tx⟩ := e
  simp only at h0 h1 h2
  have hf : fldB ⟨k, (n1, n2), at_, tx⟩ = false := by
    unfold fldB
    rw [if_neg h2, if_neg h1, if_neg h0]
  rw [hf]
  unfold evV
  have hb := (Below.refl w.heap.size w).alloc (Nat.le_refl _) (.cells #[.int .i8 k, .string n1, .string n2, .slice a n c, .string tx] 30)
  have q0 : (k == 0) = false := by simpa using h0
  have q1 : (k == 1) = false := by simpa using h1
  have q2 : (k == 2) = false := by simpa using h2
  clear hf h0 h1 h2
  go_enter Try.func95, Try.ntmps95
  go_wp2_with fail
  all_goals
    go_ret
    exact ⟨rfl, hb⟩
/-- what lasts within the loop over attributes. -/
structure FdI (w : World) (be bm : Nat) (cs : Array Value) (l : List (ByteArray × ByteArray)) (wr : World) : Prop where
  ev : BlkAt wr be cs
  mp : NMap wr bm (seenM l)
  bl : Below be w wr
  lt : be < bm
theorem FdI.alloc {w : World} {be bm : Nat} {cs : Array Value} {l : List (ByteArray × ByteArray)} {wr : World} (h : FdI w be bm cs l wr) (o : Obj) : FdI w be bm cs l (wr.alloc o) :=
  ⟨h.ev.alloc o, h.mp.alloc o, h.bl.alloc (Nat.le_of_lt h.ev.lt) o, h.lt⟩
set_option maxRecDepth 100000 in
set_option maxHeartbeats 8000000 in
theorem events_fields0 (B : Nat) (e : Evt) (av : Value) (w : World) (hk : e.k = 0) (hr : CReads B w av e.at_.length (atC e.at_)) (hB : B ≤ w.heap.size) (hl : e.at_.length ≤ 140737488351232) :
    Calls Try.prog 95 #[evV e av] w fun r w' => r = .returned (.bool (fldB e)) ∧ Below w.heap.size w w' := by
  obtain ⟨k, ⟨n1, n2⟩, at_, tx⟩ := e
  simp only at hk hr hl
  subst hk
  have hr0 := hr
  obtain ⟨a, c, rfl, -⟩ := hr0
  obtain ⟨n, hn⟩ : ∃ n, at_.length = n := ⟨_, rfl⟩
  have HN := Lib.hid hn
  rw [hn] at hr hl ⊢
  obtain ⟨A, hA⟩ : ∃ A, attGo [] at_ = A := ⟨_, rfl⟩
  have hf : fldB ⟨0, (n1, n2), at_, tx⟩ = (A && !emB n2 && emB tx) := by
    unfold fldB
    rw [if_neg (by show ¬ (0 : Int) = 2; decide), if_neg (by show ¬ (0 : Int) = 1; decide), if_pos rfl, ← hA]
  rw [hf]
  have HA := Lib.hid (show attGo [] (at_.drop 0) = A from hA)
  unfold evV
  clear hf hn hA
  have hmm := @run_makeMap Try.prog
  have F0 : FdI w w.heap.size (w.heap.size + 1) #[.int .i8 0, .string n1, .string n2, .slice a n c, .string tx] [] ((w.alloc (.cells #[.int .i8 0, .string n1, .string n2, .slice a n c, .string tx] 30)).alloc (.map #[] 0)) := by
    have hb := (Below.refl w.heap.size w).alloc (Nat.le_refl _) (.cells #[.int .i8 0, .string n1, .string n2, .slice a n c, .string tx] 30)
    have h1 := NMap.made (w.alloc (.cells #[.int .i8 0, .string n1, .string n2, .slice a n c, .string tx] 30))
    rw [show (w.alloc (.cells #[.int .i8 0, .string n1, .string n2, .slice a n c, .string tx] 30)).heap.size = w.heap.size + 1 by simp] at h1
    exact ⟨(BlkAt.new w _ _).alloc _, h1, hb.alloc hb.size _, by omega⟩
  go_enter Try.func95, Try.ntmps95
  go_wp2_with fail
  all_goals
    clear hmm
    obtain ⟨be, hbe⟩ : ∃ b, w.heap.size = b := ⟨_, rfl⟩
    have HBE := Lib.hid hbe
    rw [hbe] at F0 ⊢
    clear hbe
    generalize (w.alloc (.cells #[.int .i8 0, .string n1, .string n2, .slice a n c, .string tx] 30)).alloc (.map #[] 0) = w1 at F0 ⊢
    go_loopw [50] (fun i wr => ∃ (j : Nat) (seen : List (ByteArray × ByteArray)), i = .int .i64 j ∧ j ≤ n ∧ Hid (attGo seen (at_.drop j) = A) ∧ FdI w be (be + 1) #[.int .i8 0, .string n1, .string n2, .slice a n c, .string tx] seen wr) (fun i _ => n - (intOf i).toNat)
    case atStart => exact ⟨0, [], rfl, by omega, HA, F0⟩
    case round =>
      clear F0 HA
      obtain ⟨j, seen, rfl, hj, HK, F⟩ := hrel
      by_cases hlt : j < n
      · obtain ⟨x, hx⟩ : ∃ x, at_[j]? = some x := ⟨_, List.getElem?_eq_getElem (by rw [HN.out]; exact hlt)⟩
        have hdr : at_.drop j = x :: at_.drop (j + 1) := by
          obtain ⟨h1, h2⟩ := List.getElem?_eq_some_iff.1 hx
          rw [← h2, List.drop_eq_getElem_cons h1]
        obtain ⟨b, off, cap, hv, c0, c1, c2⟩ := hr.attr F.bl (by rw [← HBE.out]; exact hB) j x hx
        cases hv
        obtain ⟨⟨x0, x1⟩, x2⟩ := x
        simp only at c0 c1 c2
        have hq := HK.out
        rw [hdr, attGo] at hq
        simp only at hq
        have F1 := F.alloc (.cells #[.string x0, .string x1, .string x2] 58)
        have hlk := seen_look F1.mp x0 x1
        clear hr hx hdr HK
        cases hin : inL (x0, x1) seen with
        | true =>
          rw [hin] at hlk hq
          have HQ := Lib.hid (show false = A from hq)
          clear hin hq
          go_wp2_with fail
          go_ret
          exact ⟨ret_bool (by rw [← HQ.out]; rfl), by rw [HBE.out]; exact F1.bl⟩
        | false =>
          rw [hin] at hlk hq
          cases hem : emB x1 with
          | true =>
            have q1 : (x1.toList == []) = true := by rw [emB_eq]; exact hem
            rw [hem] at hq
            have HQ := Lib.hid (show false = A from hq)
            clear hin hq hem
            go_wp2_with fail
            go_ret
            exact ⟨ret_bool (by rw [← HQ.out]; rfl), by rw [HBE.out]; exact F1.bl⟩
          | false =>
            have q1 : (x1.toList == []) = false := by rw [emB_eq]; exact hem
            rw [hem] at hq
            have HQ : Hid (attGo (seen ++ [(x0, x1)]) (at_.drop (j + 1)) = A) := Lib.hid (by simpa using hq)
            obtain ⟨w2, hup, hm2, hg2⟩ := seen_push F1.mp x0 x1 hin
            have F2 : FdI w be (be + 1) #[.int .i8 0, .string n1, .string n2, .slice (some ⟨b, off, none⟩) n c, .string tx] (seen ++ [(x0, x1)]) w2 :=
              ⟨F1.ev.grown hg2 (by intro e; injection e with e; omega), hm2, F1.bl.grown hg2 (Nat.le_of_lt F1.ev.lt) (fun k e => by cases e; omega), F1.lt⟩
            clear hin hq hem F1 F
            go_wp2_with fail
            exact ⟨⟨j + 1, _, by go_num, by omega, HQ, F2⟩, by simp [intOf]; omega⟩
      · rw [List.drop_eq_nil_of_le (by rw [HN.out]; omega)] at HK
        have HQ := Lib.hid (show true = A from HK.out)
        have hc1 := F.ev.cell 2 rfl
        have hc2 := F.ev.cell 4 rfl
        clear hr HK
        go_wp2_with fail
        all_goals
          go_ret
          exact ⟨ret_bool (by rw [← HQ.out]; simp_all [emB]), by rw [HBE.out]; exact F.bl⟩
theorem events_fields (B : Nat) (e : Evt) (av : Value) (w : World) (hr : CReads B w av e.at_.length (atC e.at_)) (hB : B ≤ w.heap.size) (hl : e.at_.length ≤ 140737488351232) :
    Calls Try.prog 95 #[evV e av] w fun r w' => r = .returned (.bool (fldB e)) ∧ Below w.heap.size w w' := by
  by_cases h0 : e.k = 0
  · exact events_fields0 B e av w h0 hr hB hl
  · obtain ⟨a, c, rfl, -⟩ := hr
    by_cases h1 : e.k = 1
    · exact events_fields1 e a _ c w h1 rfl
    · by_cases h2 : e.k = 2
      · exact events_fields2 e a _ c w h2 rfl
      · exact events_fields3 e a _ c w h0 h1 h2
end Go.Proofs.Yteefopeclfojiaa
/- 
  A stack of ints of the call's own: its row, or a part of one that is cut to its length ('s[:n:n]').
 -/
namespace Go.Proofs.Yteefopeclfojiaa
open Go.RowKit
/-- a stack of ints in blocks from base on. -/
def Stk (base : Nat) (w : World) (v : Value) (l : List Int) : Prop :=
  w.ownsRow base 3 1 v l.length (l.map (Value.int .i64)) ∨
  ∃ b, v = .slice (some ⟨b, 0, none⟩) l.length l.length ∧ base ≤ b ∧ b < w.heap.size ∧ l.length ≤ maxLen ∧ ∀ (i : Nat) x, l[i]? = some x → w.cell? ⟨b, i, none⟩ = some (.int .i64 x)
theorem Stk.nil (base : Nat) (w : World) : Stk base w (.slice none 0 0) [] := .inl ⟨rfl, .inl ⟨rfl, rfl⟩⟩
theorem Stk.form {base : Nat} {w : World} {v : Value} {l : List Int} (h : Stk base w v l) : ∃ a cap, v = .slice a l.length cap ∧ (∀ b, a = some b → base ≤ b.block) := by
  rcases h with h | ⟨b, rfl, hb, _⟩
  · rcases h.2 with ⟨rfl, h0⟩ | ⟨g, cap, cur, rfl, hb, _⟩
    · rw [h0]; exact ⟨none, 0, rfl, fun b h => by cases h⟩
    · exact ⟨_, cap, rfl, fun b h => by cases h; exact hb⟩
  · exact ⟨_, _, rfl, fun b h => by cases h; exact hb⟩
theorem Stk.read {base : Nat} {w : World} {v : Value} {l : List Int} (h : Stk base w v l) (i : Nat) (x : Int) (hx : l[i]? = some x) :
    ∃ b cap, v = .slice (some ⟨b, 0, none⟩) l.length cap ∧ base ≤ b ∧ w.cell? ⟨b, i, none⟩ = some (.int .i64 x) ∧ l.length ≤ cap := by
  rcases h with h | ⟨b, rfl, hb, _, _, hc⟩
  · have h0 := h
    rcases h.2 with ⟨rfl, h9⟩ | ⟨g, cap, cur, rfl, hb, h1, h2, h3, h4, h5⟩
    · rw [List.eq_nil_of_length_eq_zero h9] at hx; cases hx
    · refine ⟨g, cap, rfl, hb, ?_, h2⟩
      have := h0.cells (g := g) rfl i (.int .i64 x) (by rw [List.getElem?_map, hx]; rfl)
      rwa [addr0, Nat.zero_add] at this
  · exact ⟨b, _, rfl, hb, hc i x hx, Nat.le_refl _⟩
theorem Stk.lt {base : Nat} {w : World} {l : List Int} {b cap n : Nat} (h : Stk base w (.slice (some ⟨b, 0, none⟩) n cap) l) : b < w.heap.size := by
  rcases h with h | ⟨b', e, _, hl, _⟩
  · rcases h.2 with ⟨e, _⟩ | ⟨g, cap, cur, e, _, h1, _⟩
    · cases e
    · cases e
      exact (Array.getElem?_eq_some_iff.1 h1).1
  · cases e; exact hl
theorem Stk.below {base : Nat} {w w' : World} {v : Value} {l : List Int} (h : Stk base w v l) {C : Nat} (hb : Below C w w') (hC : w.heap.size ≤ C) : Stk base w' v l := by
  rcases h with h | ⟨b, rfl, h1, h2, h3, h4⟩
  · exact .inl (own_below h hb hC)
  · exact .inr ⟨b, rfl, h1, Nat.lt_of_lt_of_le h2 hb.size, h3, fun i x hx => (hb.cell (p := ⟨b, i, none⟩) (by show b < C; omega)).trans (h4 i x hx)⟩
theorem cell_of_grown {w w' : World} {row : Option Nat} (hg : w.grownBy w' row) {b : Nat} (hb : b < w.heap.size) (hne : some b ≠ row) (i : Nat) : w'.cell? ⟨b, i, none⟩ = w.cell? ⟨b, i, none⟩ := by
  simp only [World.cell?, hg.block b hb hne]
theorem Stk.kept {base : Nat} {w w' : World} {v : Value} {l : List Int} (h : Stk base w v l) {q : Nat} (hg : w.grownBy w' (some q)) (hq : q < base) : Stk base w' v l := by
  rcases h with h | ⟨b, rfl, h1, h2, h3, h4⟩
  · refine .inl (h.kept hg ?_)
    cases hv : v.ownBlock with
    | none => exact .inl rfl
    | some k =>
      refine .inr fun e => ?_
      injection e with e
      have := (h.lt k hv).1
      omega
  · exact .inr ⟨b, rfl, h1, Nat.lt_of_lt_of_le h2 hg.size, h3, fun i x hx => (cell_of_grown hg h2 (by intro e; injection e with e; omega) i).trans (h4 i x hx)⟩
/-- the last one is cut off: 's[:n:n]'. -/
theorem Stk.cut {base : Nat} {w : World} {l : List Int} {x : Int} {b cap : Nat} (h : Stk base w (.slice (some ⟨b, 0, none⟩) (l.length + 1) cap) (l ++ [x])) (hl : l.length ≤ maxLen) : Stk base w (.slice (some ⟨b, 0, none⟩) l.length l.length) l := by
  have hb := h.lt
  refine .inr ⟨b, rfl, ?_, hb, hl, fun i y hy => ?_⟩
  · obtain ⟨a, c, e, hf⟩ := h.form
    simp only [Value.slice.injEq] at e
    exact hf _ e.1.symm
  · have hi : i < l.length := (List.getElem?_eq_some_iff.1 hy).1
    obtain ⟨b', c', e, _, hc, _⟩ := h.read i y (by rw [List.getElem?_append_left hi]; exact hy)
    simp only [Value.slice.injEq, Option.some.injEq, Addr.mk.injEq] at e
    rw [e.1.1]
    exact hc
/-- one more is put upon it. -/
theorem Stk.push {base : Nat} {wr : World} {v : Value} {l : List Int} (h : Stk base wr v l) (x : Int) (hn : l.length < 1099511627776) (hbase : base ≤ wr.heap.size) :
    ∃ v' w', (Builtin.append_ #[31, 31] 31 #[v, .slice (some ⟨wr.heap.size, 0, none⟩) 1 1]).run Try.prog (wr.alloc (.cells #[.int .i64 x] 3)) = .ok v' w' ∧
      Stk base w' v' (l ++ [x]) ∧ Below base wr w' := by
  rcases h with h | ⟨b, rfl, h1, h2, h3, h4⟩
  · obtain ⟨v', w', g1, g2, g3, _⟩ := app_int wr base v l.length l h x hn hbase
    exact ⟨v', w', g1, .inl (by rw [List.length_append]; exact g2), g3⟩
  · obtain ⟨i0, hi, hz0, hz1, hz2⟩ := info_parts infoInt
    obtain ⟨v', w', g1, g2, g3⟩ := run_append_arg_grows (P := Try.prog) (w := wr.alloc (.cells #[.int .i64 x] 3)) 31 31 3 i0 (.int .i64 0) 1 8 Try.underlying31 hi hz0 hz1 hz2 rfl (by decide)
      ⟨b, 0, none⟩ l.length l.length (l.map (Value.int .i64)) (by simp) (fun j u hj => by
        rw [List.getElem?_map] at hj
        cases hx : l[j]? with
        | none => rw [hx] at hj; cases hj
        | some y =>
          rw [hx] at hj
          cases hj
          rw [show (⟨b, 0, none⟩ : Addr).add j = ⟨b, j, none⟩ by unfold Addr.add; split <;> simp_all]
          rw [World.cell?_alloc_past _ _ _ h2]
          exact h4 j y hx)
      ⟨wr.heap.size, 0, none⟩ 1 1 [.int .i64 x] rfl (fun j u hj => by match j, hj with | 0, hj => simp at hj; subst hj; simp [Addr.add, World.cell?_alloc_mark]) (by omega) (by unfold maxLen; omega) (by omega)
    refine ⟨v', w', g1, .inl ?_, ?_⟩
    · rw [List.length_append, List.map_append]
      rcases g2.2 with hh | ⟨g, cap, cur, e, hg, rest⟩
      · exact ⟨g2.1, .inl hh⟩
      · refine ⟨g2.1, .inr ⟨g, cap, cur, e, ?_, rest⟩⟩
        have : wr.heap.size ≤ (wr.alloc (.cells #[.int .i64 x] 3)).heap.size := by simp
        omega
    · exact ((Below.refl base wr).alloc hbase _).grown g3 (by simp; omega) (fun k e => by cases e)
end Go.Proofs.Yteefopeclfojiaa
/- 
  Layer 16: the walk of events.grow.
 -/
namespace Go.Proofs.Yteefopeclfojiaa
open Go.RowKit
/-- what grow comes to. -/
def GrowS (w w' : World) (v : Value) (R : Option Gr) (e : Ending) : Prop := match R with
  | none => e = .returned (.pointer none) ∧ Below w.heap.size w w'
  | some g => ∃ p mb, e = .returned (.pointer (some ⟨p, 0, none⟩)) ∧ Below w.heap.size w w' ∧ BlkAt w' p #[v, .map (some mb), .int .i64 g.deep] ∧ IMap w' .i64 mb g.ends ∧ w.heap.size ≤ p ∧ w.heap.size ≤ mb
/-- what lasts within grow's loop. -/
structure GrI (w : World) (v : Value) (vs : Value) (g : Gr) (wr : World) : Prop where
  tr : BlkAt wr (w.heap.size + 1) #[v, .map (some w.heap.size), .int .i64 g.deep]
  mp : IMap wr .i64 w.heap.size g.ends
  st : Stk (w.heap.size + 2) wr vs g.op
  bl : Below w.heap.size w wr
theorem GrI.below {w : World} {v vs : Value} {g : Gr} {wr wx : World} (h : GrI w v vs g wr) (hb : Below wr.heap.size wr wx) : GrI w v vs g wx :=
  ⟨h.tr.below hb h.tr.lt, h.mp.below hb (Nat.le_refl _), h.st.below hb (Nat.le_refl _), bt h.bl hb⟩
theorem GrI.alloc {w : World} {v vs : Value} {g : Gr} {wr : World} (h : GrI w v vs g wr) (o : Obj) : GrI w v vs g (wr.alloc o) := h.below ((Below.refl _ wr).alloc (Nat.le_refl _) o)
theorem GrI.drewN {w : World} {v vs : Value} {g : Gr} {wr : World} (h : GrI w v vs g wr) (n : Nat) : GrI w v vs g (wr.drewN n) := h.below (below_dn (Below.refl _ wr) n)
theorem toL_ne {a b : ByteArray} (h : a ≠ b) : (a.toList == b.toList) = false := by
  have : ¬ a.toList = b.toList := fun e => h (by
    rw [ByteArray.toList_eq, ByteArray.toList_eq] at e
    exact ByteArray.ext (Array.toList_inj.1 e))
  simpa using this
theorem gr_cell (w : World) (p i : Nat) (v : Value) : w.grownBy (w.setCell ⟨p, i, none⟩ v) (some p) := ⟨rfl, rfl, rfl, Nat.le_of_eq (by simp), fun b _ hne => heap_setCell_other w ⟨p, i, none⟩ b v (fun e => hne (by rw [e]))⟩
theorem IMap.low {W W' : World} {kk : IntKind} {b : Nat} {L : List (Int × Value)} (h : IMap W kk b L) {B : Nat} (hb : Below B W W') (hlt : b < B) : IMap W' kk b L := by
  obtain ⟨es, clock, he, hL⟩ := h
  exact ⟨es, clock, (hb.block b hlt).trans he, hL⟩
/-- one more is open. -/
theorem GrI.pushed {w : World} {v vs vs' : Value} {op op' : List Int} {ends : List (Int × Value)} {deep : Nat} {wr wx : World} (h : GrI w v vs ⟨op, ends, deep⟩ wr) (hst : Stk (w.heap.size + 2) wx vs' op') (hb : Below (w.heap.size + 2) wr wx) (D : Nat) :
    GrI w v vs' ⟨op', ends, D⟩ (wx.setCell ⟨w.heap.size + 1, 2, none⟩ (.int .i64 D)) :=
  ⟨(h.tr.below hb (by omega)).set 2 (.int .i64 D), (h.mp.low hb (by omega)).kept (gr_cell wx _ 2 _) (by intro e; injection e with e; omega), hst.kept (gr_cell wx _ 2 _) (by omega), (h.bl.trans (hb.mono (by omega))).setCell (p := ⟨w.heap.size + 1, 2, none⟩) (by show w.heap.size ≤ w.heap.size + 1; omega) _⟩
set_option maxRecDepth 100000 in
set_option maxHeartbeats 8000000 in
theorem events_grow (B : Nat) (es : List Evt) (v : Value) (w : World) (hr : EvsR B w v es) (hB : B ≤ w.heap.size) (hn : es.length ≤ 1000000) (hz : ∀ e ∈ es, e.at_.length ≤ 140737488351232) :
    Calls Try.prog 59 #[v] w fun r w' => GrowS w w' v (growP es) r := by
  have hr0 := hr
  obtain ⟨avs, ⟨a, cap, rfl, -⟩, -⟩ := hr0
  obtain ⟨n, hnn⟩ : ∃ n, es.length = n := ⟨_, rfl⟩
  have HN := Lib.hid hnn
  rw [hnn] at hr hn ⊢
  clear hnn
  obtain ⟨R, hR⟩ : ∃ R, growP es = R := ⟨_, rfl⟩
  rw [hR]
  have HR : Hid (R = (grun es 0 (es.drop 0) ⟨[], [], 0⟩).bind (gfin es)) := Lib.hid hR.symm
  clear hR
  have hmm := @run_makeMap Try.prog
  have G0 : GrI w (.slice a n cap) (.slice none 0 0) ⟨[], [], 0⟩ ((w.alloc (.map #[] 0)).alloc (.cells #[.slice a n cap, .map (some w.heap.size), .int .i64 0] 82)) := by
    have hb := ((Below.refl w.heap.size w).alloc (Nat.le_refl _) (.map #[] 0)).alloc (by simp) (.cells #[.slice a n cap, .map (some w.heap.size), .int .i64 0] 82)
    have h1 := BlkAt.new (w.alloc (.map #[] 0)) #[.slice a n cap, .map (some w.heap.size), .int .i64 0] 82
    rw [show (w.alloc (.map #[] 0)).heap.size = w.heap.size + 1 by simp] at h1
    exact ⟨h1, (IMap.made w .i64).alloc _, Stk.nil _ _, hb⟩
  go_enter Try.func59, Try.ntmps59
  go_wp2_with fail
  go_step3
  go_wp2_with fail
  go_step3
  go_wp2_with fail
  clear hmm
  generalize (w.alloc (.map #[] 0)).alloc (.cells #[.slice a n cap, .map (some w.heap.size), .int .i64 0] 82) = w1 at G0 ⊢
  go_loopw [4, 15] (fun vs i wr => ∃ (j : Nat) (g : Gr), i = .int .i64 j ∧ j ≤ n ∧ Hid (R = (grun es j (es.drop j) g).bind (gfin es)) ∧ GrI w (.slice a n cap) vs g wr ∧ g.op.length ≤ j ∧ g.deep ≤ j ∧ Hid (∀ t ∈ g.op, 0 ≤ t ∧ t < j)) (fun _ i _ => n - (intOf i).toNat)
  case atStart => exact ⟨0, ⟨[], [], 0⟩, rfl, by omega, HR, G0, by simp, by simp, Lib.hid (fun t h => by cases h)⟩
  case round =>
    clear G0 HR
    obtain ⟨j, g, rfl, hj, HK, G, hgl, hgd, HO⟩ := hrel
    obtain ⟨op, ends, deep⟩ := g
    simp only at hgl hgd HO
    by_cases hlt : j < n
    · obtain ⟨x, hx⟩ : ∃ x, es[j]? = some x := ⟨_, List.getElem?_eq_getElem (by rw [HN.out]; exact hlt)⟩
      have hdr : es.drop j = x :: es.drop (j + 1) := by
        obtain ⟨h1, h2⟩ := List.getElem?_eq_some_iff.1 hx
        rw [← h2, List.drop_eq_getElem_cons h1]
      have hq := HK.out
      rw [hdr, grun] at hq
      obtain ⟨b, off, cap', av, hv, hbB, c0, c1, c2, c3, c4, hav⟩ := hr.get G.bl hB j x hx
      rw [HN.out] at hv
      cases hv
      have hxz := hz x (List.mem_of_getElem? hx)
      have hav0 := hav
      obtain ⟨aa, ac, rfl, -⟩ := hav0
      obtain ⟨oa, oc, hvs, hof⟩ := G.st.form
      simp only at hvs hof
      subst hvs
      obtain ⟨k, nm, ats, tx⟩ := x
      simp only at c0 c1 c2 c3 c4 hav hxz
      have G1 := G.alloc (.cells #[.int .i8 k, .string nm.1, .string nm.2, .slice aa ats.length ac, .string tx] 30)
      have hav1 := hav.below ((Below.refl _ wr).alloc (Nat.le_refl _) (.cells #[.int .i8 k, .string nm.1, .string nm.2, .slice aa ats.length ac, .string tx] 30)) (Nat.le_trans hB G.bl.size)
      have E1 := BlkAt.new wr #[.int .i8 k, .string nm.1, .string nm.2, .slice aa ats.length ac, .string tx] 30
      have hBs : B ≤ (wr.alloc (.cells #[.int .i8 k, .string nm.1, .string nm.2, .slice aa ats.length ac, .string tx] 30)).heap.size := Nat.le_trans hB (Nat.le_trans G.bl.size (by simp))
      have hFD := events_fields B ⟨k, nm, ats, tx⟩ (.slice aa ats.length ac) (wr.alloc (.cells #[.int .i8 k, .string nm.1, .string nm.2, .slice aa ats.length ac, .string tx] 30)) hav1 hBs hxz
      unfold evV at hFD
      simp only at hFD
      have hebs : w.heap.size + 2 ≤ wr.heap.size := by
        have h1 := G.tr.lt
        omega
      obtain ⟨m, hm⟩ : ∃ m, op.length = m := ⟨_, rfl⟩
      cases hfd : fldB ⟨k, nm, ats, tx⟩ with
      | false =>
        have hRn : R = none := by rw [hq]; unfold gstep; rw [if_pos hfd]; rfl
        subst hRn
        rw [hfd] at hFD
        have HF := Lib.hid hFD
        clear hq hFD hfd hr hx hdr HK hm
        go_wp2_with fail
        refine (HF.out).mono ?_
        rintro r w2 ⟨rfl, hb2⟩
        have G2 := G1.below hb2
        go_wp2_with fail
        try rw [Exit.noGoto_ret]
        go_ret
        exact ⟨rfl, G2.bl⟩
      | true =>
        rw [hfd] at hFD
        have HF := Lib.hid hFD
        have hq2 : R = ((gbody es j k nm ⟨op, ends, deep⟩).bind (grun es (j + 1) (es.drop (j + 1)))).bind (gfin es) := by
          rw [hq]
          unfold gstep
          rw [if_neg (by rw [hfd]; decide)]
        unfold gbody at hq2
        simp only at hq2
        clear hq hFD hfd HK
        by_cases hout : op = [] ∧ (0 < j ∨ k ≠ 0)
        · rw [if_pos hout] at hq2
          have hRn : R = none := hq2
          subst hRn
          obtain ⟨hop, hjk⟩ := hout
          subst hop
          simp only [List.length_nil] at hm
          subst hm
          have hjk2 : 0 < j ∨ (j = 0 ∧ (k != 0) = true) := by
            rcases hjk with h | h
            · exact .inl h
            · rcases Nat.eq_zero_or_pos j with h0 | h0
              · exact .inr ⟨h0, by simpa using h⟩
              · exact .inl h0
          clear hq2 hr hx hdr hjk
          rcases hjk2 with h0 | ⟨h0, h1⟩
          · go_wp2_with fail
            refine (HF.out).mono ?_
            rintro r w2 ⟨rfl, hb2⟩
            have G2 := G1.below hb2
            go_wp2_with fail
            try rw [Exit.noGoto_ret]
            go_ret
            exact ⟨rfl, G2.bl⟩
          · subst h0
            simp only [Nat.zero_mul, Nat.add_zero] at c0 c1 c2 c3 c4
            go_wp2_with fail
            refine (HF.out).mono ?_
            rintro r w2 ⟨rfl, hb2⟩
            have G2 := G1.below hb2
            have E2 : _ = some (Value.int .i8 k) := (E1.below hb2 E1.lt).cell 0 rfl
            go_wp2_with fail
            try rw [Exit.noGoto_ret]
            go_ret
            exact ⟨rfl, G2.bl⟩
        · rw [if_neg hout] at hq2
          by_cases hk0 : k = 0
          · subst hk0
            rw [if_pos rfl] at hq2
            have HQ : Hid (R = (grun es (j + 1) (es.drop (j + 1)) ⟨op ++ [(j : Int)], ends, max deep (op.length + 1)⟩).bind (gfin es)) := Lib.hid hq2
            have hm0 : (m = 0 ∧ j = 0) ∨ 0 < m := by
              rcases Nat.eq_zero_or_pos m with h | h
              · refine .inl ⟨h, ?_⟩
                rcases Nat.eq_zero_or_pos j with h1 | h1
                · exact h1
                · exact absurd ⟨List.eq_nil_of_length_eq_zero (by omega), .inl h1⟩ hout
              · exact .inr h
            have HM := Lib.hid hm
            rw [hm] at G G1 ⊢
            clear hq2 hx hdr hout hm hr
            have HO2 : Hid (∀ t ∈ op ++ [(j : Int)], 0 ≤ t ∧ t < ((j + 1 : Nat) : Int)) := Lib.hid fun t ht => by
              rcases List.mem_append.1 ht with h | h
              · have := HO.out t h
                omega
              · rw [List.mem_singleton.1 h]
                omega
            obtain ⟨D, hD⟩ : ∃ D, max deep (op.length + 1) = D := ⟨_, rfl⟩
            rw [hD] at HQ
            have hDl : D ≤ j + 1 := by omega
            have hmax : (if (deep : Int) < (m : Int) + 1 then (m : Int) + 1 else (deep : Int)) = (D : Int) := by rw [← hD, HM.out]; split <;> omega
            clear hD
            rcases hm0 with ⟨h1, h2⟩ | h1
            · subst h1
              subst h2
              obtain rfl : D = 1 := by split at hmax <;> omega
              clear hmax
              simp only [Nat.zero_mul, Nat.add_zero] at c0 c1 c2 c3 c4
              go_wp2_with fail
              refine (HF.out).mono ?_
              rintro r w2 ⟨rfl, hb2⟩
              have G2 := G1.below hb2
              have E2 : _ = some (Value.int .i8 0) := (E1.below hb2 E1.lt).cell 0 rfl
              obtain ⟨v', w3, hp1, hp2, hp3⟩ := G2.st.push (((0 : Nat) : Int) : Int) (by simp only [HM.out]; omega) (by have := G2.tr.lt; omega)
              obtain ⟨a3, k3, hv3, hof3⟩ := hp2.form
              rw [List.length_append, show [(((0 : Nat) : Int) : Int)].length = 1 from rfl] at hv3
              simp only [HM.out] at hv3
              subst hv3
              have HA := Lib.hid hp1
              have G3 := G2.pushed hp2 hp3 1
              have T3 : _ = some (Value.int .i64 deep) := (G2.tr.below hp3 (by omega)).cell 2 rfl
              have F3 := (G2.tr.below hp3 (by omega)).free 2
              clear hp1 hp2 hp3 G2
              go_wp2_with (at_builtin; refine wpList_append_run rfl _ _ _ _ rfl _ _ rfl rfl _ _ HA.out ?_)
              exact ⟨⟨0 + 1, ⟨op ++ [((0 : Nat) : Int)], ends, 1⟩, by go_num, by omega, HQ, G3, by simp only [List.length_append, List.length_cons, List.length_nil]; omega, hDl, HO2⟩, by simp [intOf]; omega⟩
            · go_wp2_with fail
              refine (HF.out).mono ?_
              rintro r w2 ⟨rfl, hb2⟩
              have G2 := G1.below hb2
              have E2 : _ = some (Value.int .i8 0) := (E1.below hb2 E1.lt).cell 0 rfl
              obtain ⟨v', w3, hp1, hp2, hp3⟩ := G2.st.push (j : Int) (by simp only [HM.out]; omega) (by have := G2.tr.lt; omega)
              obtain ⟨a3, k3, hv3, hof3⟩ := hp2.form
              rw [List.length_append, show [(j : Int)].length = 1 from rfl] at hv3
              simp only [HM.out] at hv3
              subst hv3
              have HA := Lib.hid hp1
              have G3 := G2.pushed hp2 hp3 D
              have T3 : _ = some (Value.int .i64 deep) := (G2.tr.below hp3 (by omega)).cell 2 rfl
              have F3 := (G2.tr.below hp3 (by omega)).free 2
              clear hp1 hp2 hp3 G2
              go_wp2_with (at_builtin; refine wpList_append_run rfl _ _ _ _ rfl _ _ rfl rfl _ _ HA.out ?_)
              exact ⟨⟨j + 1, ⟨op ++ [(j : Int)], ends, D⟩, by go_num, by omega, HQ, G3, by simp only [List.length_append, List.length_cons, List.length_nil]; omega, hDl, HO2⟩, by simp [intOf]; omega⟩
          · have hne : op ≠ [] := fun h => hout ⟨h, .inr hk0⟩
            have hm0 : 0 < m := by rw [← hm]; exact List.length_pos_iff.2 hne
            have hj0 : 0 < j := by omega
            have q0 : (k == 0) = false := by simpa using hk0
            rw [if_neg hk0] at hq2
            have HM := Lib.hid hm
            by_cases hk2 : k = 2
            · subst hk2
              rw [if_pos rfl] at hq2
              obtain ⟨y, hy⟩ : ∃ y, es[j - 1]? = some y := ⟨_, List.getElem?_eq_getElem (by rw [HN.out]; omega)⟩
              rw [hy] at hq2
              rw [hm] at G G1 ⊢
              clear hx hdr hout hm hk0 hne q0
              by_cases hyk : y.k = 2
              · have hRn : R = none := by rw [hq2, if_pos (by rw [← hyk]; rfl)]; rfl
                subst hRn
                have q1 : (y.k == 2) = true := by simp [hyk]
                clear hq2
                go_wp2_with fail
                refine (HF.out).mono ?_
                rintro r w2 ⟨rfl, hb2⟩
                have G2 := G1.below hb2
                have E2 : _ = some (Value.int .i8 2) := (E1.below hb2 E1.lt).cell 0 rfl
                obtain ⟨b', off', cap', av', hv', -, d0, -⟩ := hr.get G2.bl hB (j - 1) y hy
                rw [HN.out] at hv'
                cases hv'
                clear hr hyk
                go_wp2_with fail
                try rw [Exit.noGoto_ret]
                go_ret
                exact ⟨rfl, G2.bl⟩
              · have HQ : Hid (R = (grun es (j + 1) (es.drop (j + 1)) ⟨op, ends, deep⟩).bind (gfin es)) := Lib.hid (by rw [hq2, if_neg (by intro e; injection e with e; exact hyk e)]; rfl)
                have q1 : (y.k == 2) = false := by simpa using hyk
                have HO2 : Hid (∀ t ∈ op, 0 ≤ t ∧ t < ((j + 1 : Nat) : Int)) := Lib.hid fun t ht => by have := HO.out t ht; omega
                clear hq2
                go_wp2_with fail
                refine (HF.out).mono ?_
                rintro r w2 ⟨rfl, hb2⟩
                have G2 := G1.below hb2
                have E2 : _ = some (Value.int .i8 2) := (E1.below hb2 E1.lt).cell 0 rfl
                obtain ⟨b', off', cap', av', hv', -, d0, -⟩ := hr.get G2.bl hB (j - 1) y hy
                rw [HN.out] at hv'
                cases hv'
                clear hr hyk
                go_wp2_with fail
                exact ⟨⟨j + 1, ⟨op, ends, deep⟩, by go_num, by omega, HQ, G2, by simp only; omega, by simp only; omega, HO2⟩, by simp [intOf]; omega⟩
            · have q2 : (k == 2) = false := by simpa using hk2
              rw [if_neg hk2] at hq2
              obtain ⟨ini, tt, rfl⟩ : ∃ ini tt, op = ini ++ [tt] := ⟨op.dropLast, op.getLast hne, (List.dropLast_concat_getLast hne).symm⟩
              rw [show (ini ++ [tt]).getLast? = some tt by simp] at hq2
              simp only [List.dropLast_concat] at hq2
              obtain ⟨I, hI⟩ : ∃ I, ini.length = I := ⟨_, rfl⟩
              have hm1 : (ini ++ [tt]).length = I + 1 := by rw [List.length_append, hI]; rfl
              have hto := HO.out tt (by simp)
              obtain ⟨tn, rfl⟩ : ∃ tn : Nat, tt = (tn : Int) := ⟨tt.toNat, by omega⟩
              rw [Int.toNat_natCast] at hq2
              obtain ⟨z, hzz⟩ : ∃ z, es[tn]? = some z := ⟨_, List.getElem?_eq_getElem (by rw [HN.out]; omega)⟩
              rw [hzz] at hq2
              rw [hm1] at G G1 ⊢
              have htl : tn < j := by omega
              obtain ⟨zk, zn, zat, ztx⟩ := z
              have hIl : I + 1 ≤ j := by rw [← hm1]; exact hgl
              clear hx hdr hout hm HM hm0 hk0 hk2 hne hgl hto
              by_cases hnm : zn = nm
              · subst hnm
                have HQ : Hid (R = (grun es (j + 1) (es.drop (j + 1)) ⟨ini, aPut ends (tn : Int) (.int .i64 j), deep⟩).bind (gfin es)) := Lib.hid (by rw [hq2, if_pos (show Option.map Evt.n (some (⟨zk, zn, zat, ztx⟩ : Evt)) = some zn from rfl)]; rfl)
                have HO2 : Hid (∀ t ∈ ini, 0 ≤ t ∧ t < ((j + 1 : Nat) : Int)) := Lib.hid fun t ht => by have := HO.out t (List.mem_append_left _ ht); omega
                clear hq2
                go_wp2_with fail
                refine (HF.out).mono ?_
                rintro r w2 ⟨rfl, hb2⟩
                have G2 := G1.below hb2
                have E2 : _ = some (Value.int .i8 k) := (E1.below hb2 E1.lt).cell 0 rfl
                have E3 : _ = some (Value.string zn.1) := (E1.below hb2 E1.lt).cell 1 rfl
                have E4 : _ = some (Value.string zn.2) := (E1.below hb2 E1.lt).cell 2 rfl
                obtain ⟨b', off', cap', av', hv', -, -, d1, d2, -⟩ := hr.get G2.bl hB tn ⟨zk, zn, zat, ztx⟩ hzz
                rw [HN.out] at hv'
                cases hv'
                obtain ⟨sb, sc, hvs, hsb, s0, hsc⟩ := G2.st.read I (tn : Int) (by simp [← hI])
                simp only [hm1] at hvs
                cases hvs
                simp only at d1 d2
                have T1 : _ = some (Value.map (some w.heap.size)) := G2.tr.cell 1 rfl
                have G3 := G2.drewN
                clear hr
                go_wp2_with fail
                go_quiet (fail)
                rename_i nq
                have G3' := G3 nq
                have s1 : World.cell? (w2.drewN nq) ⟨sb, I, none⟩ = some (.int .i64 (tn : Int)) := s0
                have T2 : World.cell? (w2.drewN nq) ⟨w.heap.size + 1, 1, none⟩ = some (.map (some w.heap.size)) := T1
                obtain ⟨w3, hw3⟩ : ∃ w3, w2.drewN nq = w3 := ⟨_, rfl⟩
                rw [hw3] at G3' s1 T2 ⊢
                clear hw3 G3
                have G4 : GrI w (.slice (some ⟨b, off, none⟩) n cap) (.slice (some ⟨sb, 0, none⟩) (I + 1) oc) ⟨ini ++ [(tn : Int)], ends, deep⟩ { heap := w3.heap, tape := w3.tape, drawn := w3.drawn + 1, os := w3.os, output := w3.output } := G3'.drewN 1
                have s2 : World.cell? { heap := w3.heap, tape := w3.tape, drawn := w3.drawn + 1, os := w3.os, output := w3.output } ⟨sb, I, none⟩ = some (.int .i64 (tn : Int)) := s1
                have T3 : World.cell? { heap := w3.heap, tape := w3.tape, drawn := w3.drawn + 1, os := w3.os, output := w3.output } ⟨w.heap.size + 1, 1, none⟩ = some (.map (some w.heap.size)) := T2
                have G5 : GrI w (.slice (some ⟨b, off, none⟩) n cap) (.slice (some ⟨sb, 0, none⟩) (I + 1) oc) ⟨ini ++ [(tn : Int)], ends, deep⟩ w3.drew := G4
                have hI1 : (I : Int) < (I : Int) + 1 := by omega
                obtain ⟨w4, hup, him, hgr⟩ := G5.mp.update (t := 80) Try.underlying80 Try.underlying3 (tn : Int) (.int .i64 j)
                go_wp2_with fail
                go_still_tail 9, (by kernel_rfl)
                have hst : Stk (w.heap.size + 2) w4 (.slice (some ⟨sb, 0, none⟩) I I) ini := by
                  have h1 := G5.st.kept hgr (by omega)
                  simp only at h1
                  rw [← hI] at h1 ⊢
                  exact h1.cut (by rw [hI]; unfold maxLen; omega)
                have G6 : GrI w (.slice (some ⟨b, off, none⟩) n cap) (.slice (some ⟨sb, 0, none⟩) I I) ⟨ini, aPut ends (tn : Int) (.int .i64 j), deep⟩ w4 :=
                  ⟨G5.tr.grown hgr (by intro e; injection e with e; omega), him, hst, G5.bl.grown hgr G5.bl.size (fun k e => by cases e; exact Nat.le_refl _)⟩
                go_wp2_with fail
                exact ⟨⟨j + 1, ⟨ini, aPut ends (tn : Int) (.int .i64 j), deep⟩, by go_num, by omega, HQ, G6, by simp only [hI]; omega, by simp only; omega, HO2⟩, by simp [intOf]; omega⟩
              · have hRn : R = none := by rw [hq2, if_neg (by intro e; injection e with e; exact hnm e)]; rfl
                subst hRn
                clear hq2
                have hne2 : (zn.1.toList == nm.1.toList) = false ∨ ((zn.1.toList == nm.1.toList) = true ∧ (zn.2.toList == nm.2.toList) = false) := by
                  by_cases h1 : zn.1 = nm.1
                  · refine .inr ⟨by rw [h1]; simp, toL_ne fun h2 => hnm (Prod.ext h1 h2)⟩
                  · exact .inl (toL_ne h1)
                go_wp2_with fail
                refine (HF.out).mono ?_
                rintro r w2 ⟨rfl, hb2⟩
                have G2 := G1.below hb2
                have E2 : _ = some (Value.int .i8 k) := (E1.below hb2 E1.lt).cell 0 rfl
                have E3 : _ = some (Value.string nm.1) := (E1.below hb2 E1.lt).cell 1 rfl
                have E4 : _ = some (Value.string nm.2) := (E1.below hb2 E1.lt).cell 2 rfl
                obtain ⟨b', off', cap', av', hv', -, -, d1, d2, -⟩ := hr.get G2.bl hB tn ⟨zk, zn, zat, ztx⟩ hzz
                rw [HN.out] at hv'
                cases hv'
                obtain ⟨sb, sc, hvs, hsb, s0, -⟩ := G2.st.read I (tn : Int) (by simp [← hI])
                simp only [hm1] at hvs
                cases hvs
                simp only at d1 d2
                have G3 := G2.drewN
                clear hr hnm
                rcases hne2 with g1 | ⟨g1, g2⟩
                all_goals
                  go_wp2_with fail
                  go_quiet (fail)
                  go_wp2_with fail
                  try rw [Exit.noGoto_ret]
                  go_ret
                  exact ⟨rfl, (G3 _).bl⟩
    · rw [List.drop_eq_nil_of_le (by rw [HN.out]; omega), grun] at HK
      obtain rfl : j = n := by omega
      have hq : R = gfin es ⟨op, ends, deep⟩ := HK.out
      unfold gfin at hq
      simp only at hq
      obtain ⟨oa, oc, hvs, hof⟩ := G.st.form
      simp only at hvs
      subst hvs
      by_cases h0 : es = [] ∨ op ≠ []
      · rw [if_pos h0] at hq
        subst hq
        have h1 : j = 0 ∨ (0 < j ∧ 0 < op.length) := by
          rcases Nat.eq_zero_or_pos j with h | h
          · exact .inl h
          · refine .inr ⟨h, ?_⟩
            rcases h0 with h0 | h0
            · rw [← HN.out, h0] at h; simp at h
            · exact List.length_pos_iff.2 h0
        clear h0 HK hr
        rcases h1 with h1 | ⟨h1, h2⟩
        · subst h1
          go_wp2_with fail
          try rw [Exit.noGoto_ret]
          go_ret
          exact ⟨rfl, G.bl⟩
        · go_wp2_with fail
          try rw [Exit.noGoto_ret]
          go_ret
          exact ⟨rfl, G.bl⟩
      · rw [if_neg h0] at hq
        subst hq
        have h1 : 0 < j := by
          rw [← HN.out]
          exact List.length_pos_iff.2 (fun e => h0 (.inl e))
        have h2 : op.length = 0 := by
          rcases Nat.eq_zero_or_pos op.length with h | h
          · exact h
          · exact absurd (.inr (List.length_pos_iff.1 h)) h0
        clear h0 HK hr
        rw [h2]
        go_wp2_with fail
        try rw [Exit.noGoto_ret]
        go_ret
        exact ⟨_, _, rfl, G.bl, G.tr, G.mp, by omega, by omega⟩
end Go.Proofs.Yteefopeclfojiaa
