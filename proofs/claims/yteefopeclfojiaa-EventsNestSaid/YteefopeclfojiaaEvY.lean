/-
  Layer 16: the walk of the document's Great.
-/
import Derived.Test.YteefopeclfojiaaEvF
import Derived.Deep.QuietTactic
namespace Go.Proofs.Yteefopeclfojiaa
open Go.RowKit
/-- the texts' lengths, each counted up to 9000. -/
def sT : List Evt → Nat
  | [] => 0
  | e :: r => min e.tx.size 9000 + sT r
theorem sT_snoc : ∀ (es : List Evt) (k : Nat) (e : Evt), es[k]? = some e → sT (es.take (k + 1)) = sT (es.take k) + min e.tx.size 9000
  | [], k, e, h => by simp at h
  | x :: r, 0, e, h => by
    simp at h
    subst h
    simp [sT]
  | x :: r, k + 1, e, h => by
    have ih := sT_snoc r k e (by simpa using h)
    rw [List.take_succ_cons, List.take_succ_cons, sT, sT, ih]
    omega
theorem sT_tot : ∀ (es : List Evt), (∀ e ∈ es, e.tx.size ≤ 140737488351232) → sT es ≤ 12000 → (txsL es).length ≤ sT es ∨ (9000 ≤ sT es ∧ (txsL es).length + 9000 ≤ sT es + 140737488351232)
  | [], _, _ => .inl (Nat.le_refl _)
  | x :: r, h, hs => by
    have hx := h x (List.mem_cons_self ..)
    have ih := sT_tot r (fun e he => h e (List.mem_cons_of_mem _ he)) (by rw [sT] at hs; omega)
    have e1 : (txsL (x :: r)).length = x.tx.size + (txsL r).length := by
      show (nums x.tx ++ txsL r).length = _
      rw [List.length_append, nums_length]
    rw [sT] at hs ⊢
    rw [e1]
    rcases ih with h1 | ⟨h1, h2⟩ <;> omega
/-- events that are not too great to be asked. -/
structure GreatOk (es : List Evt) : Prop where
  len : es.length ≤ 300
  ats : ∀ e ∈ es, e.at_.length ≤ 40
  txs : (txsL es).length ≤ 140737488355000
theorem GreatOk.at_le {es : List Evt} (h : GreatOk es) {e : Evt} (he : e ∈ es) : e.tx.size ≤ 140737488355000 := by
  have h1 := h.txs
  obtain ⟨a, b, rfl⟩ := List.append_of_mem he
  have : (txsL (a ++ e :: b)).length = (txsL a).length + (e.tx.size + (txsL b).length) := by
    unfold txsL
    rw [List.flatMap_append, List.flatMap_cons, List.length_append, List.length_append, nums_length]
  omega
theorem minI (a : Nat) (h : a ≤ 4611686018427387904) : (if (9000 : Int) < (a : Int) then 9000 else (a : Int)) = ((min a 9000 : Nat) : Int) := by
  split <;> omega
def GreatS (es : List Evt) (w w' : World) (r : Ending) : Prop := ∃ b, r = .returned (.bool b) ∧ (b = false → GreatOk es) ∧ Below w.heap.size w w'
set_option maxRecDepth 100000 in
set_option maxHeartbeats 8000000 in
theorem ref16_Great (B : Nat) (es : List Evt) (v : Value) (w : World) (hr : EvsR B w v es) (hB : B ≤ w.heap.size) (hn : es.length ≤ 140737488351232) (hz : ∀ e ∈ es, e.tx.size ≤ 140737488351232 ∧ e.n.1.size ≤ 140737488351232 ∧ e.n.2.size ≤ 140737488351232 ∧ e.at_.length ≤ 140737488351232 ∧ ∀ a ∈ e.at_, a.1.1.size ≤ 140737488351232 ∧ a.1.2.size ≤ 140737488351232 ∧ a.2.size ≤ 140737488351232) :
    Calls Try.prog 15 #[v] w fun r w' => GreatS es w w' r := by
  obtain ⟨avs, ⟨a, cap, rfl, -⟩, -⟩ := id hr
  obtain ⟨n, hnn⟩ : ∃ n, es.length = n := ⟨_, rfl⟩
  have HN := Lib.hid hnn
  rw [hnn] at hr hn ⊢
  clear hnn
  go_enter Try.func15, Try.ntmps15
  go_wp2_with fail
  go_loopw [3, 4] (fun s i wr => ∃ (j N : Nat), i = .int .i64 j ∧ s = .int .i64 N ∧ j ≤ n ∧ j ≤ 301 ∧ sT (es.take j) ≤ N ∧ N ≤ j * 1000000 ∧ (∀ e ∈ es.take j, e.at_.length ≤ 40) ∧ Below w.heap.size w wr) (fun _ i _ => 301 - (intOf i).toNat)
  case atStart => exact ⟨0, 0, rfl, rfl, by omega, by omega, by simp [sT], by omega, by simp, Below.refl _ _⟩
  case round =>
    obtain ⟨j, N, rfl, rfl, hj, hj3, hs, hN, ha, hbl⟩ := hrel
    by_cases hlt : j < n
    · have hd := decide_eq_true (show (j : Int) < (n : Int) by omega)
      by_cases h3 : j ≤ 300
      · have hd3 := decide_eq_true (show (j : Int) ≤ 300 by omega)
        obtain ⟨x, hx⟩ : ∃ x, es[j]? = some x := ⟨_, List.getElem?_eq_getElem (by rw [HN.out]; exact hlt)⟩
        have hsn := sT_snoc es j x hx
        have htk : es.take (j + 1) = es.take j ++ [x] := by rw [List.take_add_one, hx]; rfl
        obtain ⟨z0, z1, z2, z3, z4⟩ := hz x (List.mem_of_getElem? hx)
        obtain ⟨b, off, cap', av, hv, hbB, c0, c1, c2, c3, c4, hav⟩ := hr.get hbl hB j x hx
        rw [HN.out] at hv
        cases hv
        obtain ⟨aa, ac, rfl, -⟩ := id hav
        have m1 := minI x.tx.size (by omega)
        have m2 := minI (x.n.1.size + x.n.2.size) (by omega)
        rw [Int.natCast_add] at m2
        obtain ⟨y1, hy1⟩ : ∃ y, min x.tx.size 9000 = y := ⟨_, rfl⟩
        obtain ⟨y2, hy2⟩ : ∃ y, min (x.n.1.size + x.n.2.size) 9000 = y := ⟨_, rfl⟩
        rw [hy1] at m1 hsn
        rw [hy2] at m2
        have hy1' : y1 ≤ 9000 := by omega
        have hy2' : y2 ≤ 9000 := by omega
        have HX := Lib.hid hx
        have HTK := Lib.hid htk
        clear hx htk hr hz
        go_wp2_with fail
        go_quiet (fail)
        have hbd := below_dn hbl nq
        obtain ⟨N1, hN1⟩ : ∃ N1, N + y1 + y2 = N1 := ⟨_, rfl⟩
        rw [show ((N : Int) + (y1 : Int) + (y2 : Int)) = (N1 : Int) by omega]
        have k3 : (wr.drewN nq).cell? ⟨b, off + j * 5 + 3, none⟩ = some (.slice aa x.at_.length ac) := c3
        have hav1 := hav.below (below_dn (Below.refl B wr) nq) (Nat.le_refl _)
        have hBd : B ≤ (wr.drewN nq).heap.size := Nat.le_trans hB hbd.size
        clear c0 c1 c2 c3 c4 m1 m2 hbl hav
        generalize wr.drewN nq = w1 at *
        go_wp2_with fail
        obtain ⟨m, hm⟩ : ∃ m, x.at_.length = m := ⟨_, rfl⟩
        have HM := Lib.hid hm
        rw [hm] at z3 hav1 k3
        clear hm
        go_loopw [3, 5] (fun s i wi => ∃ (k M : Nat), i = .int .i64 k ∧ s = .int .i64 M ∧ k ≤ m ∧ k ≤ 41 ∧ N1 ≤ M ∧ M ≤ N1 + k * 18000 ∧ Below w1.heap.size w1 wi) (fun _ i _ => 41 - (intOf i).toNat)
        case atStart => exact ⟨0, N1, rfl, rfl, by omega, by omega, by omega, by omega, Below.refl _ _⟩
        case round =>
          obtain ⟨k, M, rfl, rfl, hk, hk4, hM1, hM2, hbi⟩ := hrel
          have kk : wr.cell? ⟨b, off + j * 5 + 3, none⟩ = some (.slice aa m ac) := (hbi.cell (p := ⟨b, off + j * 5 + 3, none⟩) (by show b < _; omega)).trans k3
          by_cases hkm : k < m
          · have e1 := decide_eq_true (show (k : Int) < (m : Int) by omega)
            by_cases hk40 : k ≤ 40
            · have e2 := decide_eq_true (show (k : Int) ≤ 40 by omega)
              obtain ⟨y, hy⟩ : ∃ y, x.at_[k]? = some y := ⟨_, List.getElem?_eq_getElem (by rw [HM.out]; exact hkm)⟩
              obtain ⟨s0, s1, s2⟩ := z4 y (List.mem_of_getElem? hy)
              obtain ⟨b2, o2, cp2, hv2, p0, p1, p2⟩ := hav1.attr hbi hBd k y hy
              cases hv2
              obtain ⟨⟨x0, x1⟩, x2⟩ := y
              simp only at p0 p1 p2 s0 s1 s2
              have m1 := minI x2.size (by omega)
              have m2 := minI (x0.size + x1.size) (by omega)
              rw [Int.natCast_add] at m2
              obtain ⟨u1, hu1⟩ : ∃ y, min x2.size 9000 = y := ⟨_, rfl⟩
              obtain ⟨u2, hu2⟩ : ∃ y, min (x0.size + x1.size) 9000 = y := ⟨_, rfl⟩
              rw [hu1] at m1
              rw [hu2] at m2
              have hu1' : u1 ≤ 9000 := by omega
              have hu2' : u2 ≤ 9000 := by omega
              clear hy hu1 hu2 hav1
              go_wp2_with fail
              go_quiet (fail)
              go_wp2_with fail
              refine ⟨⟨k + 1, M + u1 + u2, by go_num, by go_num, by omega, by omega, by omega, by omega, below_dn hbi _⟩, ?_⟩
              simp [intOf]
              omega
            · have e2 := decide_eq_false (show ¬ (k : Int) ≤ 40 by omega)
              have e3 := decide_eq_true (show (40 : Int) < (m : Int) by omega)
              clear hav1
              go_wp2_with fail
              go_ret
              exact ⟨true, rfl, fun h => (by cases h), hbd.trans (hbi.mono hbd.size)⟩
          · have e1 := decide_eq_false (show ¬ (k : Int) < (m : Int) by omega)
            clear hav1
            by_cases h40 : 40 < m
            · go_wp2_with fail
              go_ret
              exact ⟨true, rfl, fun h => (by cases h), hbd.trans (hbi.mono hbd.size)⟩
            · go_wp2_with fail
              refine ⟨⟨j + 1, M, by go_num, rfl, by omega, by omega, by omega, by omega, fun e he => ?_, hbd.trans (hbi.mono hbd.size)⟩, by simp [intOf]; omega⟩
              rw [HTK.out] at he
              rcases List.mem_append.1 he with he | he
              · exact ha e he
              · rw [List.mem_singleton.1 he, HM.out]
                omega
      · have hd3 := decide_eq_false (show ¬ (j : Int) ≤ 300 by omega)
        go_wp2_with fail
        go_ret
        exact ⟨true, rfl, fun h => (by cases h), hbl⟩
    · have hd := decide_eq_false (show ¬ (j : Int) < (n : Int) by omega)
      have hjn : es.take j = es := List.take_of_length_le (by rw [HN.out]; omega)
      rw [hjn] at hs ha
      have HF := Lib.hid (And.intro hs (And.intro ha hz))
      clear hs ha hz hr hjn
      go_wp2_with fail
      · go_ret
        refine ⟨_, rfl, fun h => ?_, hbl⟩
        obtain ⟨hs, ha, hz⟩ := HF.out
        have h1 : (n : Int) ≤ 300 ∧ (N : Int) ≤ 12000 := by simpa using h
        refine ⟨by rw [HN.out]; omega, ha, ?_⟩
        rcases sT_tot es (fun e he => (hz e he).1) (by omega) with h2 | h2 <;> omega
      · go_ret
        exact ⟨true, rfl, fun h => (by cases h), hbl⟩
end Go.Proofs.Yteefopeclfojiaa
