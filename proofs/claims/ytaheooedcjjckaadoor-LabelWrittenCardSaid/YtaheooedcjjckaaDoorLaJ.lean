/-
  Layer 5: what is written of a label is read as it, in plain terms; a row of bytes that grows at either end.
-/
import Derived.Test.YtaheooedcjjckaaDoorLaI
import Derived.Maps.AppendAt
namespace Go.Proofs.YtaheooedcjjckaaDoor
open Go.RowKit
theorem dropW_app (P : Int → Bool) : ∀ (zs r : List Int), (∀ c ∈ zs, P c = true) → (∀ c, r.head? = some c → P c = false) → (zs ++ r).dropWhile P = r
  | [], r, _, h => by
    cases r with
    | nil => rfl
    | cons c t => rw [List.nil_append, List.dropWhile_cons, h c rfl, if_neg (by decide)]
  | z :: zs, r, hz, h => by
    rw [List.cons_append, List.dropWhile_cons, if_pos (hz z (List.mem_cons_self ..))]
    exact dropW_app P zs r (fun c hc => hz c (List.mem_cons_of_mem _ hc)) h
theorem trim_ws (zs ys zt : List Int) (hz : ∀ c ∈ zs, wsN c = true) (ht : ∀ c ∈ zt, wsN c = true) (hy : ys ≠ []) (h1 : ∀ c, ys.head? = some c → wsN c = false) (h2 : ∀ c, ys.reverse.head? = some c → wsN c = false) : trimN (zs ++ (ys ++ zt)) = ys := by
  unfold trimN
  rw [dropW_app wsN zs (ys ++ zt) hz (fun c hc => h1 c (by cases ys with | nil => exact absurd rfl hy | cons a b => exact hc)), List.reverse_append,
    dropW_app wsN zt.reverse ys.reverse (fun c hc => ht c (List.mem_reverse.1 hc)) h2, List.reverse_reverse]
def labOK (e : Nat) (X : ByteArray) : Bool := decide (lowL (nums X) = nums X) && ((match (nums X).head? with | none => false | some c => !wsN c) && ((match (nums X).reverse.head? with | none => false | some c => !wsN c) && ((ofS X == ((e : Int), true)) && decide (X.size ≤ 30))))
theorem lab_ok : ((List.range 6).all fun e => !(labL e).isEmpty && (labL e).all (labOK e)) = true := by kernel_rfl
theorem lab_facts (e : Nat) (he : e < 6) (X : ByteArray) (hX : X ∈ labL e) : lowL (nums X) = nums X ∧ (∀ c, (nums X).head? = some c → wsN c = false) ∧ (∀ c, (nums X).reverse.head? = some c → wsN c = false) ∧ nums X ≠ [] ∧ ofS X = ((e : Int), true) ∧ X.size ≤ 30 := by
  have h := List.all_eq_true.1 lab_ok e (List.mem_range.2 he)
  rw [Bool.and_eq_true] at h
  have h := List.all_eq_true.1 h.2 X hX
  unfold labOK at h
  rw [Bool.and_eq_true, Bool.and_eq_true, Bool.and_eq_true, Bool.and_eq_true] at h
  obtain ⟨a, b, c, d, f⟩ := h
  refine ⟨of_decide_eq_true a, fun x hx => by rw [hx] at b; simpa using b, fun x hx => by rw [hx] at c; simpa using c, fun hn => by rw [hn] at b; simp at b, beq_iff_eq.1 d, of_decide_eq_true f⟩
theorem lab_some (e : Nat) (he : e < 6) : 0 < (labL e).length := by
  have h := List.all_eq_true.1 lab_ok e (List.mem_range.2 he)
  rw [Bool.and_eq_true] at h
  have h := h.1
  cases hl : labL e with
  | nil => rw [hl] at h; cases h
  | cons a b => simp
/-- how it is written makes no difference. -/
theorem written_of (e : Nat) (he : e < 6) (X : ByteArray) (hX : X ∈ labL e) (zs ys zt : List Int) (hz : ∀ c ∈ zs, wsN c = true) (ht : ∀ c ∈ zt, wsN c = true) (hy : lowL ys = nums X) (hb : isBs (zs ++ (ys ++ zt))) :
    ofS (wantS (strOfNums (zs ++ (ys ++ zt)))) = ((e : Int), true) := by
  obtain ⟨_, h2, h3, h4, h5, _⟩ := lab_facts e he X hX
  have hne : ys ≠ [] := fun hn => h4 (by rw [← hy, hn]; rfl)
  have hm : ys.map lowB = nums X := hy
  have t1 : ∀ c, ys.head? = some c → wsN c = false := fun c hc => by
    rw [← lowB_ws]
    apply h2
    rw [← hm, List.head?_map, hc]
    rfl
  have t2 : ∀ c, ys.reverse.head? = some c → wsN c = false := fun c hc => by
    rw [← lowB_ws]
    apply h3
    rw [← hm, ← List.map_reverse, List.head?_map, hc]
    rfl
  have tr : nums (trimS (strOfNums (zs ++ (ys ++ zt)))) = ys := by
    rw [nums_trimS, nums_strOfNums _ hb]
    exact trim_ws zs ys zt hz ht hne t1 t2
  unfold wantS
  rw [tr, hy, strOfNums_nums]
  exact h5
theorem want_label (e : Nat) (he : e < 6) (X : ByteArray) (hX : X ∈ labL e) : ofS (wantS X) = ((e : Int), true) := by
  have h := written_of e he X hX [] (nums X) [] (fun c hc => by cases hc) (fun c hc => by cases hc) (lab_facts e he X hX).1 (by simpa using nums_isBs X)
  rw [List.nil_append, List.append_nil, strOfNums_nums] at h
  exact h
theorem take_set_succ : ∀ (l : List Value) (n : Nat) (x : Value), n < l.length → (l.set n x).take (n + 1) = l.take n ++ [x]
  | [], n, x, h => by simp at h
  | c :: t, 0, x, _ => by simp
  | c :: t, n + 1, x, h => by
    rw [List.set_cons_succ, List.take_succ_cons, take_set_succ t n x (by simpa using h), List.take_succ_cons]
    rfl
/-- a slice over a whole row of bytes of the call's own, none of which is frozen; it lies at B or above. -/
def BRow (B : Nat) (w : World) (v : Value) (xs : List Int) : Prop :=
  ∃ (g : Nat) (cur : Array Value) (fz : Nat × Nat), v = .slice (some ⟨g, 0, none⟩) xs.length cur.size ∧ B ≤ g ∧ w.heap[g]? = some (.cells cur 5 fz) ∧ (∀ i, i < cur.size → ¬ (fz.1 ≤ i ∧ i < fz.2)) ∧ cur.size ≤ maxLen ∧ xs.length ≤ cur.size ∧ cur.toList.take xs.length = xs.map (Value.int .u8)
theorem BRow.form {B : Nat} {w : World} {v : Value} {xs : List Int} (h : BRow B w v xs) : ∃ g cap, v = .slice (some ⟨g, 0, none⟩) xs.length cap ∧ ∀ j (hj : j < xs.length), w.cell? ⟨g, j, none⟩ = some (.int .u8 xs[j]) ∧ w.frozen? ⟨g, j, none⟩ = false := by
  obtain ⟨g, cur, fz, rfl, hB, hg, hfz, hm, hl, ht⟩ := h
  refine ⟨g, cur.size, rfl, fun j hj => ?_⟩
  have hc : cur[j]? = some (.int .u8 xs[j]) := by
    have h1 : (cur.toList.take xs.length)[j]? = some (.int .u8 xs[j]) := by
      rw [ht, List.getElem?_map, List.getElem?_eq_getElem hj]; rfl
    rw [List.getElem?_take_of_lt hj] at h1
    simpa using h1
  refine ⟨by simp [World.cell?, hg, hc], ?_⟩
  obtain ⟨lo, hi⟩ := fz
  have := hfz j (by omega)
  simp only [World.frozen?, hg, Bool.and_eq_false_iff, decide_eq_false_iff_not]
  simp only at this
  omega
theorem BRow.made (w : World) (s : ByteArray) (hs : s.size ≤ 1000000) (cap : Nat) (hcap : grownCap w s.size 0 5 = cap) : BRow w.heap.size (Lib.bytesWorld w 5 s) (.slice (some ⟨w.heap.size, 0, none⟩) s.size cap) (nums s) := by
  have hge := grownCap_ge w s.size 0 5
  have hle := grownCap_le_maxLen w s.size 0 5 (by unfold maxLen; omega)
  have hcs : (Lib.bytesCells w 5 s).size = cap := by
    unfold Lib.bytesCells
    rw [Array.size_append, Array.size_map, Array.size_replicate, hcap]
    show s.size + _ = _
    omega
  refine ⟨w.heap.size, Lib.bytesCells w 5 s, _, by rw [nums_length, hcs], Nat.le_refl _, Lib.bytesWorld_at_new w 5 s, fun i hi => by dsimp only; omega, by rw [hcs]; omega, by rw [nums_length, hcs]; omega, ?_⟩
  have h : (nums s).map (Value.int .u8) = (s.data.map fun b => Value.int .u8 b.toNat).toList := by
    unfold nums
    rw [List.map_map, Array.toList_map]
    rfl
  have h2 : (s.data.map fun b => Value.int .u8 b.toNat).toList.length = (nums s).length := by rw [← h, List.length_map]
  rw [h, Lib.bytesCells, Array.toList_append, ← h2]
  exact List.take_left
theorem BRow.stored {B : Nat} {w : World} {v : Value} {xs : List Int} (h : BRow B w v xs) {g n cap : Nat} (hv : v = .slice (some ⟨g, 0, none⟩) n cap) (j : Nat) (x : Int) : BRow B (w.setCell ⟨g, j, none⟩ (.int .u8 x)) v (xs.set j x) := by
  obtain ⟨g', cur, fz, rfl, hB, hg, hfz, hm, hl, ht⟩ := h
  cases hv
  refine ⟨g, cur.setIfInBounds j (.int .u8 x), fz, by rw [List.length_set, Array.size_setIfInBounds], hB, Lib.heap_setCell_same hg _, by rw [Array.size_setIfInBounds]; exact hfz, by rw [Array.size_setIfInBounds]; exact hm, by rw [List.length_set, Array.size_setIfInBounds]; exact hl, ?_⟩
  rw [Array.toList_setIfInBounds, List.length_set, List.map_set, ← ht, List.take_set]
theorem BRow.low {B : Nat} {w : World} {v : Value} {xs : List Int} (h : BRow B w v xs) {g n cap : Nat} (hv : v = .slice (some ⟨g, 0, none⟩) n cap) : B ≤ g := by
  obtain ⟨g', cur, fz, rfl, hB, _⟩ := h
  cases hv
  exact hB
theorem BRow.below {B C : Nat} {w w' : World} {v : Value} {xs : List Int} (h : BRow B w v xs) (hb : Below C w w') (hC : w.heap.size ≤ C) : BRow B w' v xs := by
  obtain ⟨g, cur, fz, rfl, hB, hg, hr⟩ := h
  exact ⟨g, cur, fz, rfl, hB, (hb.block g (Nat.lt_of_lt_of_le (Array.getElem?_eq_some_iff.1 hg).1 hC)).trans hg, hr⟩
theorem BRow.of_own {B : Nat} {w : World} {v : Value} {n : Nat} {xs : List Int} (h : w.ownsRow B 5 1 v n (xs.map (Value.int .u8))) (hn : 0 < n) : BRow B w v xs := by
  have hl : xs.length = n := by simpa using h.1
  rcases h.2 with ⟨_, h0⟩ | ⟨g, cap, cur, rfl, hB, hg, hnc, hcm, hcs, ht⟩
  · omega
  · have hc1 : cur.size = cap := by omega
    rw [Nat.mul_one] at ht
    exact ⟨g, cur, (0, 0), by rw [hl, hc1], hB, hg, fun i _ => by dsimp only; omega, by omega, by omega, by rw [hl]; exact ht⟩
theorem BRow.conv {B : Nat} {w : World} {v : Value} {xs : List Int} (h : BRow B w v xs) : (convert 33 9 v).run Tryd.prog w = .ok (.string (strOfNums xs)) w := by
  obtain ⟨g, cap, rfl, hc⟩ := h.form
  refine run_convert_bytes_arg w 33 5 Tryd.underlying33 Tryd.underlying5 g 0 xs.length cap xs rfl ?_ 9 Tryd.underlying9
  intro i hi
  rw [Nat.zero_add, (hc i hi).1]
  simp [List.getD, List.getElem?_eq_getElem hi]
/-- 'append(b, x)'. -/
theorem BRow.app {B : Nat} {w : World} {v : Value} {xs : List Int} (h : BRow B w v xs) (x : Int) (hl : xs.length ≤ 1000000) (hBw : B ≤ w.heap.size) :
    ∃ v' w', (Builtin.append_ #[33, 33] 33 #[v, .slice (some ⟨w.heap.size, 0, none⟩) 1 1]).run Tryd.prog (w.alloc (.cells #[.int .u8 x] 5)) = .ok v' w' ∧ BRow B w' v' (xs ++ [x]) ∧ Below B w w' := by
  obtain ⟨i0, hi, hz0, hz1, hz2⟩ := info_parts infoU8
  obtain ⟨g, cur, fz, rfl, hB, hg, hfz, hm, hxl, ht⟩ := h
  obtain ⟨w1, hw1⟩ : ∃ a, w.alloc (.cells #[.int .u8 x] 5) = a := ⟨_, rfl⟩
  have hb1 : Below B w w1 := by rw [← hw1]; exact (Below.refl B w).alloc hBw _
  have hs1 : w1.heap.size = w.heap.size + 1 := by rw [← hw1, World.size_alloc]
  have hlt : g < w.heap.size := (Array.getElem?_eq_some_iff.1 hg).1
  have hg1 : w1.heap[g]? = some (.cells cur 5 fz) := by rw [← hw1]; exact (Below.heap_alloc _ _ g hlt).trans hg
  have hnews : ∀ j u, [Value.int .u8 x][j]? = some u → w1.cell? ((⟨w.heap.size, 0, none⟩ : Addr).add j) = some u := fun j u hj => by
    rw [← hw1]
    match j, hj with
    | 0, hj => simp at hj; subst hj; simp [Addr.add, World.cell?_alloc_mark]
  have hcells : ∀ j u, (xs.map (Value.int .u8))[j]? = some u → w1.cell? ((⟨g, 0, none⟩ : Addr).add j) = some u := fun j u hj => by
    have hjl : j < xs.length := by have := (List.getElem?_eq_some_iff.1 hj).1; simpa using this
    have hc : cur[j]? = some u := by
      have h1 : (cur.toList.take xs.length)[j]? = some u := by rw [ht]; exact hj
      rw [List.getElem?_take_of_lt hjl] at h1
      simpa using h1
    rw [addr0, Nat.zero_add]
    simp [World.cell?, hg1, hc]
  by_cases hroom : xs.length + 1 ≤ cur.size
  · have hf := run_firstCells_some (P := Tryd.prog) w1 i0.size 1 ⟨w.heap.size, 0, none⟩ 1 1 [.int .u8 x] (by rw [hz1]; rfl) hnews
    have hcell : w1.cell? ⟨g, xs.length, none⟩ = some (cur[xs.length]'(by omega)) := by simp [World.cell?, hg1, show xs.length < cur.size by omega]
    have hfro : w1.frozen? ⟨g, xs.length, none⟩ = false := by
      obtain ⟨lo, hi'⟩ := fz
      have := hfz xs.length (by omega)
      simp only [World.frozen?, hg1, Bool.and_eq_false_iff, decide_eq_false_iff_not]
      simp only at this
      omega
    have hst : (storeCells ⟨g, xs.length, none⟩ [Value.int .u8 x] 0).run Tryd.prog w1 = .ok () (w1.setCell ⟨g, xs.length, none⟩ (.int .u8 x)) := by
      have e : (⟨g, xs.length, none⟩ : Addr).add 0 = ⟨g, xs.length, none⟩ := by unfold Addr.add; split <;> simp_all
      have h1 : (store ((⟨g, xs.length, none⟩ : Addr).add 0) (.int .u8 x)).run Tryd.prog w1 = .ok () (w1.setCell ⟨g, xs.length, none⟩ (.int .u8 x)) := by
        rw [e, run_store Tryd.prog w1 _ _ _ rfl, hcell]
        simp [hfro]
      simp only [storeCells, Sem.run_bind, h1, Result.andThen_ok]
      rfl
    refine ⟨.slice (some ⟨g, 0, none⟩) (xs.length + 1) cur.size, w1.setCell ⟨g, xs.length, none⟩ (.int .u8 x), ?_, ?_, hb1.setCell (p := ⟨g, xs.length, none⟩) hB _⟩
    · rw [hw1]
      rw [hz1] at hf
      simp [Builtin.append_, run_underlying Tryd.underlying33, sizeOf, typeInfo, hi, hz1, Builtin.lenOf, hroom, hf, Addr.add_lit, hst]
    · refine ⟨g, cur.setIfInBounds xs.length (.int .u8 x), fz, by simp, hB, Lib.heap_setCell_same hg1 _, by rw [Array.size_setIfInBounds]; exact hfz, by rw [Array.size_setIfInBounds]; exact hm, by rw [Array.size_setIfInBounds]; simpa using hroom, ?_⟩
      rw [Array.toList_setIfInBounds, List.length_append, List.length_singleton, take_set_succ cur.toList xs.length (.int .u8 x) (by have : cur.toList.length = cur.size := Array.length_toList; omega), ht, List.map_append]
      rfl
  · have hr := run_append_grow (P := Tryd.prog) w1 33 33 5 i0 (.int .u8 0) Tryd.underlying33 hi hz0 ⟨g, 0, none⟩ xs.length cur.size (xs.map (Value.int .u8)) (by rw [hz1]; simp) hcells ⟨w.heap.size, 0, none⟩ 1 1 [.int .u8 x] (by rw [hz1]; rfl) hnews (by omega) (by omega) (by rw [hz2]; exact growslice_fits (by omega) (by omega))
    have hge := grownCap_ge w1 (xs.length + 1) cur.size 5
    have hle := grownCap_le_maxLen w1 (xs.length + 1) cur.size 5 (by unfold maxLen; omega)
    obtain ⟨A, hA⟩ : ∃ A, (xs.map (Value.int .u8)).toArray ++ [Value.int .u8 x].toArray ++ Builtin.zeroCells (Value.cells (.int .u8 0)) (grownCap w1 (xs.length + 1) cur.size 5 - (xs.length + 1)) = A := ⟨_, rfl⟩
    have hAs : A.size = grownCap w1 (xs.length + 1) cur.size 5 := by
      rw [← hA]
      simp [Array.size_append, size_zeroCells, Value.cells]
      omega
    have hAt : A.toList.take (xs.length + 1) = (xs ++ [x]).map (Value.int .u8) := by
      have e : A.toList = (xs ++ [x]).map (Value.int .u8) ++ (Builtin.zeroCells (Value.cells (.int .u8 0)) (grownCap w1 (xs.length + 1) cur.size 5 - (xs.length + 1))).toList := by
        rw [← hA]
        simp
      rw [e]
      exact List.take_left' (by simp)
    rw [hA] at hr
    refine ⟨_, _, by rw [hw1]; exact hr, ?_, ?_⟩
    · exact ⟨w1.heap.size, A, (0, 0), by rw [List.length_append, List.length_singleton, hAs], by omega, heap_alloc_new w1.drew _, fun i _ => by dsimp only; omega, by omega, by rw [List.length_append, List.length_singleton]; omega, by rw [List.length_append, List.length_singleton]; exact hAt⟩
    · exact (hb1.drew).alloc (by show B ≤ w1.heap.size; omega) _
/-- 'append([]byte{c}, b...)'. -/
theorem BRow.cons {B : Nat} {w : World} {v : Value} {xs : List Int} (h : BRow B w v xs) (x : Int) (hl : xs.length ≤ 1000000) (hBw : B ≤ w.heap.size) :
    ∃ v' w', (Builtin.append_ #[33, 33] 33 #[.slice (some ⟨w.heap.size, 0, none⟩) 1 1, v]).run Tryd.prog (w.alloc (.cells #[.int .u8 x] 5)) = .ok v' w' ∧ BRow B w' v' (x :: xs) ∧ Below B w w' := by
  obtain ⟨i0, hi, hz0, hz1, hz2⟩ := info_parts infoU8
  obtain ⟨g, cap, rfl, hc⟩ := h.form
  obtain ⟨w1, hw1⟩ : ∃ a, w.alloc (.cells #[.int .u8 x] 5) = a := ⟨_, rfl⟩
  have hb1 : Below B w w1 := by rw [← hw1]; exact (Below.refl B w).alloc hBw _
  have hs1 : w1.heap.size = w.heap.size + 1 := by rw [← hw1, World.size_alloc]
  have hlt : g < w.heap.size := by
    obtain ⟨g', cur, fz, e, _, hg, _⟩ := h
    cases e
    exact (Array.getElem?_eq_some_iff.1 hg).1
  have hown : w1.ownsRow B 5 1 (.slice (some ⟨w.heap.size, 0, none⟩) 1 1) 1 [.int .u8 x] := ⟨rfl, .inr ⟨w.heap.size, 1, #[.int .u8 x], rfl, hBw, by rw [← hw1]; exact heap_alloc_new w _, Nat.le_refl _, by unfold maxLen; omega, rfl, rfl⟩⟩
  have hnews : ∀ j u, (xs.map (Value.int .u8))[j]? = some u → w1.cell? ((⟨g, 0, none⟩ : Addr).add j) = some u := fun j u hj => by
    have hjl : j < xs.length := by have := (List.getElem?_eq_some_iff.1 hj).1; simpa using this
    rw [List.getElem?_map, List.getElem?_eq_getElem hjl] at hj
    have hb2 : Below w.heap.size w w1 := by rw [← hw1]; exact (Below.refl _ w).alloc (Nat.le_refl _) _
    rw [addr0, Nat.zero_add, ← Option.some.inj hj]
    exact (hb2.cell (p := ⟨g, j, none⟩) hlt).trans (hc j hjl).1
  obtain ⟨v', w', hr, h2, h3, _⟩ := run_append_own (P := Tryd.prog) w1 B 33 33 5 i0 (.int .u8 0) 1 1 Tryd.underlying33 hi hz0 hz1 hz2 rfl (by decide) _ 1 _ hown ⟨g, 0, none⟩ xs.length cap (xs.map (Value.int .u8)) (by simp)
    hnews (fun u hu => by obtain ⟨c, _, rfl⟩ := List.mem_map.1 hu; rfl) (by unfold maxLen; omega) (by omega) (by omega)
  have hro : w'.ownsRow B 5 1 v' (1 + xs.length) ((x :: xs).map (Value.int .u8)) := h2
  exact ⟨v', w', by rw [hw1]; exact hr, BRow.of_own hro (by omega), hb1.trans (ownBelow hown h3 (Nat.le_refl _) (by omega))⟩
end Go.Proofs.YtaheooedcjjckaaDoor
