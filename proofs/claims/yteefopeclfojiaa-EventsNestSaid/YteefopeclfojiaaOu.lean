/-
  Arguments opened: what a datum weighs; a slice of structs reads as its cells, row by row.
-/
import Derived.Test.YteefopeclfojiaaCr
import Derived.Test.YteefopeclfojiaaOp
import Derived.SizedLaws
import Derived.ChangeArms
namespace Go.Proofs.Yteefopeclfojiaa
open Go.RowKit Go.ChangeShapes Go.WideShapes Go.Deep
section
variable {H : Type} {enc : TypeId × Value → H} {P : Program} {W : World} {b0 base : Nat} {held : Bool} {t e : TypeId} {v : Value} {d : DataW H} {p : List MemPlace}
/-- no part of the datum is longer than what is reached. -/
def Wt (P : Program) (t : TypeId) (d : DataW H) : Prop := ∀ n ∈ d.weights P t, n ≤ reachBytes
theorem wt_each : ∀ {ts : List TypeId} {ds : List (DataW H)}, (∀ n ∈ DataW.weightsEach P ts ds, n ≤ reachBytes) → ∀ (i : Nat) t d, ts[i]? = some t → ds[i]? = some d → Wt P t d
  | [], ds, _, i, t, d, ht, _ => by simp at ht
  | a :: ts, [], _, i, t, d, _, hd => by simp at hd
  | a :: ts, x :: ds, h, 0, t, d, ht, hd => fun n hn => h n (by
      simp at ht hd; subst ht; subst hd
      rw [DataW.weightsEach]
      exact List.mem_append_left _ hn)
  | a :: ts, x :: ds, h, i + 1, t, d, ht, hd => wt_each (ts := ts) (ds := ds) (fun n hn => h n (by rw [DataW.weightsEach]; exact List.mem_append_right _ hn)) i t d (by simpa using ht) (by simpa using hd)
theorem wt_all {e : TypeId} : ∀ {ds : List (DataW H)}, (∀ n ∈ DataW.weightsAll P e ds, n ≤ reachBytes) → ∀ d ∈ ds, Wt P e d
  | [], _, d, hd => by cases hd
  | x :: ds, h, d, hd => by
    rcases List.mem_cons.1 hd with rfl | hd
    · exact fun n hn => h n (by rw [DataW.weightsAll]; exact List.mem_append_left _ hn)
    · exact wt_all (ds := ds) (fun n hn => h n (by rw [DataW.weightsAll]; exact List.mem_append_right _ hn)) d hd
theorem wt_agg {fs : Array Field} (ht : P.underlying t = some (.struct fs)) {ps : List (DataW H)} (h : Wt P t (.agg ps)) (i : Nat) {f : Field} {d : DataW H} (hf : fs[i]? = some f) (hd : ps[i]? = some d) : Wt P f.type d := by
  unfold Wt at h
  rw [DataW.weights] at h
  simp only [ht] at h
  exact wt_each h i f.type d (by rw [List.getElem?_map]; simp [hf]) hd
theorem wt_slice (ht : P.underlying t = some (.slice e)) {es sp : List (DataW H)} (h : Wt P t (.slice es sp)) : es.length * P.bytesOf e ≤ reachBytes ∧ ∀ d ∈ es, Wt P e d := by
  unfold Wt at h
  rw [DataW.weights] at h
  simp only [ht] at h
  have h1 := h _ (List.mem_cons_self ..)
  refine ⟨Nat.le_trans (Nat.mul_le_mul_right _ (by omega)) h1, wt_all fun n hn => h n (List.mem_cons_of_mem _ (List.mem_append_left _ hn))⟩
theorem wt_string {bytes : List UInt8} (h : Wt P t (.lit (.string bytes) : DataW H)) : bytes.length ≤ reachBytes := h _ (by simp [DataW.weights])
theorem wt_of {ts : List TypeId} {ds : List (DataW H)} (h : (DataW.weightsEach P ts ds).all (· ≤ reachBytes) = true) (i : Nat) {t : TypeId} {d : DataW H} (ht : ts[i]? = some t) (hd : ds[i]? = some d) : Wt P t d :=
  wt_each (fun n hn => by simpa using List.all_eq_true.1 h n hn) i t d ht hd
/-- a string cell. -/
theorem leaf_string {fuel : Nat} {cs : List Value} {y : DataW H × List MemPlace} (ht : P.underlying t = some .string) (h : DataW.trod enc P W base (fun _ => true) held fuel t cs = some y) (hw : Wt P t y.1) : ∃ s : ByteArray, cs = [.string s] ∧ s.size ≤ reachBytes := by
  obtain ⟨s, rfl, rfl, _⟩ := DataW.trod_string ht h
  refine ⟨s, rfl, ?_⟩
  have h1 := wt_string hw
  rwa [Array.length_toList] at h1
/-- a struct's field. -/
theorem field_of {fuel : Nat} {cs : List Value} {y : DataW H × List MemPlace} {fs : Array Field} (ht : P.underlying t = some (.struct fs)) (h : DataW.trod enc P W base (fun _ => true) held fuel t cs = some y) (hw : Wt P t y.1) :
    cs.length = P.cellsOf t ∧ ∀ (i : Nat) (f : Field), fs[i]? = some f → ∃ n z, DataW.trod enc P W base (fun _ => true) held n f.type ((cs.drop f.offset).take (P.cellsOf f.type)) = some z ∧ Wt P f.type z.1 := by
  obtain ⟨xs, n, _, rfl, hl, hlen, hf⟩ := DataW.trod_struct ht h
  refine ⟨hl, fun i f hi => ?_⟩
  have hil : i < xs.length := by rw [hlen]; exact (Array.getElem?_eq_some_iff.1 hi).1
  have h1 := hf i f hi
  rw [List.getElem?_eq_getElem hil] at h1
  exact ⟨n, _, h1, wt_agg ht hw i hi (by rw [List.getElem?_map, List.getElem?_eq_getElem hil]; rfl)⟩
/-- a struct's field of one cell. -/
theorem field_one {fuel : Nat} {cs : List Value} {y : DataW H × List MemPlace} {fs : Array Field} (ht : P.underlying t = some (.struct fs)) (h : DataW.trod enc P W base (fun _ => true) held fuel t cs = some y) (hw : Wt P t y.1)
    (i o : Nat) (T : TypeId) (c : Value) (hi : (fs[i]?.map fun f => (f.offset, f.type)) = some (o, T)) (hc : P.cellsOf T = 1) (hv : cs[o]? = some c) :
    ∃ n z, DataW.trod enc P W base (fun _ => true) held n T [c] = some z ∧ Wt P T z.1 := by
  cases hf : fs[i]? with
  | none => rw [hf] at hi; cases hi
  | some f =>
    rw [hf] at hi
    obtain ⟨h1, h2⟩ : f.offset = o ∧ f.type = T := by simpa using hi
    obtain ⟨n, z, t0, w0⟩ := (field_of ht h hw).2 i f hf
    rw [h1, h2, hc] at t0
    rw [h2] at w0
    have hol : o < cs.length := (List.getElem?_eq_some_iff.1 hv).1
    have : (cs.drop o).take 1 = [c] := by
      rw [List.drop_eq_getElem_cons hol, (List.getElem?_eq_some_iff.1 hv).2]
      rfl
    rw [this] at t0
    exact ⟨n, z, t0, w0⟩
/-- a struct's field of more cells. -/
theorem field_some {fuel : Nat} {cs : List Value} {y : DataW H × List MemPlace} {fs : Array Field} (ht : P.underlying t = some (.struct fs)) (h : DataW.trod enc P W base (fun _ => true) held fuel t cs = some y) (hw : Wt P t y.1)
    (i o m : Nat) (T : TypeId) (ds : List Value) (hi : (fs[i]?.map fun f => (f.offset, f.type)) = some (o, T)) (hc : P.cellsOf T = m) (hv : (cs.drop o).take m = ds) :
    ∃ n z, DataW.trod enc P W base (fun _ => true) held n T ds = some z ∧ Wt P T z.1 := by
  cases hf : fs[i]? with
  | none => rw [hf] at hi; cases hi
  | some f =>
    rw [hf] at hi
    obtain ⟨h1, h2⟩ : f.offset = o ∧ f.type = T := by simpa using hi
    obtain ⟨n, z, t0, w0⟩ := (field_of ht h hw).2 i f hf
    rw [h1, h2, hc, hv] at t0
    rw [h2] at w0
    exact ⟨n, z, t0, w0⟩
theorem flat_row {c : Nat} : ∀ (rows : List (List Value)) (i j : Nat) (h : i < rows.length), (∀ r ∈ rows, r.length = c) → j < c → rows.flatten[i * c + j]? = rows[i][j]?
  | [], i, j, h, _, _ => by simp at h
  | r :: rs, 0, j, h, hr, hj => by
    rw [List.flatten_cons, List.getElem?_append_left (by rw [hr r (List.mem_cons_self ..)]; omega)]
    simp
  | r :: rs, i + 1, j, h, hr, hj => by
    have hrl := hr r (List.mem_cons_self ..)
    rw [List.flatten_cons, List.getElem?_append_right (by rw [hrl, Nat.add_mul]; omega), hrl, show (i + 1) * c + j - c = i * c + j by rw [Nat.add_mul]; omega,
      flat_row rs i j (by simpa using h) (fun x hx => hr x (List.mem_cons_of_mem _ hx)) hj]
    rfl
theorem flat_len {c : Nat} : ∀ (rows : List (List Value)), (∀ r ∈ rows, r.length = c) → rows.flatten.length = rows.length * c
  | [], _ => by simp
  | r :: rs, hr => by
    rw [List.flatten_cons, List.length_append, hr r (List.mem_cons_self ..), flat_len rs (fun x hx => hr x (List.mem_cons_of_mem _ hx)), List.length_cons, Nat.add_mul]
    omega
/-- a slice of structs of c cells. -/
theorem rows_of {fuel : Nat} {cs : List Value} {y : DataW H × List MemPlace} (ht : P.underlying t = some (.slice e)) (c : Nat) (hc : P.cellsOf e = c) (hc0 : 0 < c) (h : DataW.trod enc P W base (fun _ => true) held fuel t cs = some y) (hw : Wt P t y.1) :
    ∃ (v : Value) (rows : List (List Value)), cs = [v] ∧ CReads W.heap.size W v rows.length rows.flatten ∧ rows.length * P.bytesOf e ≤ reachBytes ∧ rows.length ≤ maxLen ∧
      ∀ r ∈ rows, r.length = c ∧ ∃ n z, DataW.trod enc P W base (fun _ => true) held n e r = some z ∧ Wt P e z.1 := by
  rcases open_slice ht h with ⟨rfl, rfl⟩ | ⟨a, len, cap, m, n, D, Pl, rfl, hb, hl, hm, hmm, rfl, hi⟩
  · exact ⟨_, [], rfl, ⟨none, 0, rfl, fun i u hi => by simp at hi⟩, by simp, by simp, fun r hr => by cases hr⟩
  · have hmc : m = cap := by simpa using hmm
    obtain ⟨hwl, hwe⟩ := wt_slice ht hw
    rw [hc] at hi
    obtain ⟨rows, hrl, hrows⟩ := list_of (fun i (r : List Value) => W.cells? base (a.add (i * c)) c = some r ∧ DataW.trod enc P W base (fun _ => true) held n e r = some (D i, Pl i)) len (fun i hil => by
      obtain ⟨cs', h1, h2⟩ := hi i (by omega)
      exact ⟨cs', h1, h2⟩)
    have hlens : ∀ r ∈ rows, r.length = c := fun r hr => by
      obtain ⟨i, hi', rfl⟩ := List.getElem_of_mem hr
      exact (World.cells?_some (hrows i hi').1).2.1
    refine ⟨_, rows, rfl, ?_, by simpa [hrl] using hwl, by omega, fun r hr => ⟨hlens r hr, ?_⟩⟩
    · obtain ⟨b, off, spot⟩ := a
      refine ⟨some ⟨b, off, spot⟩, cap, by rw [hrl], fun k u hk => ?_⟩
      have hkl : k < rows.length * c := by rw [← flat_len rows hlens]; exact (List.getElem?_eq_some_iff.1 hk).1
      have hic : k / c < rows.length := Nat.div_lt_of_lt_mul (by rw [Nat.mul_comm]; exact hkl)
      have hkc : k % c < c := Nat.mod_lt _ hc0
      have hke : k / c * c + k % c = k := by rw [Nat.mul_comm]; exact Nat.div_add_mod k c
      have h1 := flat_row rows (k / c) (k % c) hic hlens hkc
      rw [hke, hk] at h1
      obtain ⟨_, _, hat⟩ := World.cells?_some (hrows (k / c) hic).1
      have h2 := hat (k % c) hkc
      rw [← h1] at h2
      have h3 : W.cell? ((⟨b, off, spot⟩ : Addr).add k) = some u := by
        rw [← h2, add_add, hke]
      have hspot : spot = none := by
        have h0 : 0 < rows.length := Nat.lt_of_le_of_lt (Nat.zero_le _) hic
        obtain ⟨_, hl0, hat0⟩ := World.cells?_some (hrows 0 h0).1
        have h4 := hat0 0 hc0
        rw [List.getElem?_eq_getElem (show 0 < (rows[0]'h0).length by rw [hl0]; exact hc0)] at h4
        simpa [Addr.add] using World.cell?_spot h4
      subst hspot
      have hadd : (⟨b, off, none⟩ : Addr).add k = ⟨b, off + k, none⟩ := by unfold Addr.add; split <;> simp_all
      rw [hadd] at h3
      refine ⟨b, off, rfl, ?_, h3⟩
      simp only [World.cell?] at h3
      by_cases hlt : b < W.heap.size
      · exact hlt
      · rw [Array.getElem?_eq_none (by omega)] at h3; simp at h3
    · obtain ⟨i, hi', rfl⟩ := List.getElem_of_mem hr
      refine ⟨n, _, (hrows i hi').2, hwe _ ?_⟩
      exact List.mem_map.2 ⟨i, List.mem_range.2 (by omega), rfl⟩
end
end Go.Proofs.Yteefopeclfojiaa
