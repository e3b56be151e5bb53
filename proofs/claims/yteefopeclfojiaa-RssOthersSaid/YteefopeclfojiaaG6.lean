/-
  Parts EvI EvJ EvX EvV of this seat's texts, in one file: contracts of functions that the law reaches, and the plain laws behind them. No condition.
-/
import Derived.Test.YteefopeclfojiaaG5
import Derived.IntWalk
import Derived.Deep.Upon
import Derived.StillTailTactics
import Derived.Test.YteefopeclfojiaaG4
/- 
  Layer 16: the walks of the document's Depth, Same.
 -/
namespace Go.Proofs.Yteefopeclfojiaa
open Go.RowKit
/-- within a run that comes to g: so many are open, so deep it was. -/
structure RdI (es : List Evt) (gf : Gr) (j : Nat) (m d : Nat) (g : Gr) (os : List Nat) : Prop where
  run : some gf = (grun es j (es.drop j) g).bind (gfin es)
  op : g.op = cI os
  hm : os.length = m
  hd : g.deep = d
  le : m ≤ d
  lj : d ≤ j
theorem RdI.next {es : List Evt} {gf : Gr} {j m d : Nat} {g : Gr} {os : List Nat} (h : RdI es gf j m d g os) {x : Evt} (hx : es[j]? = some x) :
    (x.k = 0 ∧ ∃ g2 os2, RdI es gf (j + 1) (m + 1) (max d (m + 1)) g2 os2) ∨ (x.k = 1 ∧ 1 ≤ m ∧ ∃ g2 os2, RdI es gf (j + 1) (m - 1) d g2 os2) ∨ (x.k = 2 ∧ ∃ g2 os2, RdI es gf (j + 1) m d g2 os2) := by
  obtain ⟨h1, h2, h3, h4, h5, h6⟩ := h
  have hdr : es.drop j = x :: es.drop (j + 1) := by
    obtain ⟨e1, e2⟩ := List.getElem?_eq_some_iff.1 hx
    rw [← e2, List.drop_eq_getElem_cons e1]
  obtain ⟨op, ends, deep⟩ := g
  rw [hdr, grun, Option.bind_assoc] at h1
  obtain ⟨g2, hg, hr⟩ := Option.bind_eq_some_iff.1 h1.symm
  obtain ⟨-, -, hc⟩ := gstep_iff.1 hg
  simp only at h2 h4
  subst h2
  subst h4
  rcases hc with ⟨hk, rfl⟩ | ⟨hk, ht, rfl⟩ | ⟨hk, t, ht, hnm, rfl⟩
  · exact .inl ⟨hk, _, os ++ [j], hr.symm, by rw [cI_append]; rfl, by rw [List.length_append, h3]; rfl, by show max deep ((cI os).length + 1) = _; rw [cI_len, h3], by omega, by omega⟩
  · exact .inr (.inr ⟨hk, _, os, hr.symm, rfl, h3, rfl, h5, by omega⟩)
  · obtain ⟨ini, u, hu, rfl⟩ := last_cI ht
    have h7 : m = ini.length + 1 := by rw [← h3, hu]; simp
    exact .inr (.inl ⟨hk, by omega, _, ini, hr.symm, by rw [hu, cI_append]; simp [cI], by omega, rfl, by omega, by omega⟩)
theorem RdI.last {es : List Evt} {gf : Gr} {j m d : Nat} {g : Gr} {os : List Nat} (h : RdI es gf j m d g os) (hj : es.length ≤ j) : gf.deep = d := by
  obtain ⟨h1, h2, h3, h4, h5, h6⟩ := h
  rw [List.drop_eq_nil_of_le hj] at h1
  have h7 : some gf = gfin es g := h1
  unfold gfin at h7
  split at h7
  · cases h7
  · injection h7 with h7
    rw [h7, h4]
set_option maxRecDepth 100000 in
set_option maxHeartbeats 8000000 in
theorem ref16_Depth (B : Nat) (es : List Evt) (v : Value) (w : World) (hr : EvsR B w v es) (hB : B ≤ w.heap.size) (hn : es.length ≤ 1000000) (hz : ∀ e ∈ es, e.at_.length ≤ 140737488351232) :
    Calls Try.prog 25 #[v] w fun r w' => r = .returned (.int .i64 (depP es)) ∧ Below w.heap.size w w' := by
  have HW := Lib.hid (ref16_Whole B es v w hr hB hn hz)
  obtain ⟨avs, ⟨a, cap, rfl, -⟩, -⟩ := id hr
  obtain ⟨n, hnn⟩ : ∃ n, es.length = n := ⟨_, rfl⟩
  have HN := Lib.hid hnn
  rw [hnn] at hr hn HW ⊢
  clear hnn
  unfold depP
  obtain ⟨R, hR⟩ : ∃ R, growP es = R := ⟨_, rfl⟩
  rw [hR] at HW ⊢
  cases R with
  | none =>
    clear hr hz hR
    go_enter Try.func25, Try.ntmps25
    go_wp2_with fail
    refine (HW.out).mono ?_
    rintro r w1 ⟨rfl, hb⟩
    go_wp2_with fail
    go_ret
    exact ⟨rfl, hb⟩
  | some gf =>
    have I0 : RdI es gf 0 0 0 ⟨[], [], 0⟩ [] := ⟨hR.symm, rfl, rfl, rfl, Nat.le_refl _, Nat.le_refl _⟩
    clear hR
    go_enter Try.func25, Try.ntmps25
    go_wp2_with fail
    refine (HW.out).mono ?_
    rintro r w1 ⟨rfl, hb⟩
    go_wp2_with fail
    go_loopw [3, 4, 5] (fun m d i wr => ∃ (j M D : Nat) (g : Gr) (os : List Nat), i = .int .i64 j ∧ m = .int .i64 M ∧ d = .int .i64 D ∧ j ≤ n ∧ RdI es gf j M D g os ∧ wr = w1) (fun _ _ i _ => n - (intOf i).toNat)
    case atStart => exact ⟨0, 0, 0, _, [], rfl, rfl, rfl, by omega, I0, rfl⟩
    case round =>
      clear I0
      obtain ⟨j, M, D, g, os, rfl, rfl, rfl, hj, I, rfl⟩ := hrel
      have hle := I.le
      have hlj := I.lj
      by_cases hlt : j < n
      · have hd := decide_eq_true (show (j : Int) < (n : Int) by omega)
        obtain ⟨x, hx⟩ : ∃ x, es[j]? = some x := ⟨_, List.getElem?_eq_getElem (by rw [HN.out]; exact hlt)⟩
        have hnx := I.next hx
        obtain ⟨b, off, cap', av, hv, hbB, c0, -⟩ := hr.get hb hB j x hx
        rw [HN.out] at hv
        cases hv
        rcases hnx with ⟨hk, g2, os2, I2⟩ | ⟨hk, hM, g2, os2, I2⟩ | ⟨hk, g2, os2, I2⟩
        · rw [hk] at c0
          obtain ⟨D2, hD2⟩ : ∃ D2, max D (M + 1) = D2 := ⟨_, rfl⟩
          rw [hD2] at I2
          have hmx : (if (D : Int) < (M : Int) + 1 then (M : Int) + 1 else (D : Int)) = (D2 : Int) := by split <;> omega
          have HI := Lib.hid I2
          clear hr hx hz I hk I2 hD2
          go_wp2_with fail
          exact ⟨⟨j + 1, M + 1, D2, g2, os2, by go_num, by go_num, rfl, by omega, HI.out, trivial⟩, by simp [intOf]; omega⟩
        · rw [hk] at c0
          have hmx : (if (D : Int) < (M : Int) - 1 then (M : Int) - 1 else (D : Int)) = (D : Int) := by split <;> omega
          have HI := Lib.hid I2
          clear hr hx hz I hk I2
          go_wp2_with fail
          exact ⟨⟨j + 1, M - 1, D, g2, os2, by go_num, by congr 1; omega, rfl, by omega, HI.out, trivial⟩, by simp [intOf]; omega⟩
        · rw [hk] at c0
          have hmx : (if (D : Int) < (M : Int) then (M : Int) else (D : Int)) = (D : Int) := by split <;> omega
          have HI := Lib.hid I2
          clear hr hx hz I hk I2
          go_wp2_with fail
          exact ⟨⟨j + 1, M, D, g2, os2, by go_num, rfl, rfl, by omega, HI.out, trivial⟩, by simp [intOf]; omega⟩
      · have hd := decide_eq_false (show ¬ (j : Int) < (n : Int) by omega)
        have hD := Lib.hid (I.last (by rw [HN.out]; omega))
        clear hr hz I
        go_wp2_with fail
        go_ret
        exact ⟨ret_int (by rw [hD.out]), hb⟩
set_option maxRecDepth 100000 in
set_option maxHeartbeats 8000000 in
theorem ref16_Same (B : Nat) (es ms : List Evt) (v u : Value) (w : World) (hr : EvsR B w v es) (hm : EvsR B w u ms) (hB : B ≤ w.heap.size) (hn : es.length ≤ 1000000) (hz : ∀ e ∈ es, e.at_.length ≤ 1000000) :
    Calls Try.prog 27 #[v, u] w fun r w' => r = .returned (.bool (sameP es ms)) ∧ Below w.heap.size w w' := by
  obtain ⟨avs, ⟨a, ca, rfl, -⟩, -⟩ := id hr
  obtain ⟨bvs, ⟨c, cc, rfl, -⟩, -⟩ := id hm
  obtain ⟨n, hnn⟩ : ∃ n, es.length = n := ⟨_, rfl⟩
  by_cases hle : es.length = ms.length
  · have HN := Lib.hid hnn
    have HM := Lib.hid (hle.symm.trans hnn)
    rw [hnn] at hr hn
    rw [HM.out] at hm
    rw [hnn, HM.out]
    clear hnn hle
    have hnn2 : ((n : Int) != (n : Int)) = false := by simp
    go_enter Try.func27, Try.ntmps27
    go_wp2_with fail
    go_loopw [5] (fun i wr => ∃ k m : Nat, i = .int .i64 k ∧ k ≤ n ∧ Hid (es.take k = ms.take k) ∧ wr = w.drewN m) (fun i _ => n - (intOf i).toNat)
    case atStart => exact ⟨0, 0, rfl, by omega, Lib.hid rfl, rfl⟩
    case round =>
      obtain ⟨k, m, rfl, hk, HS, rfl⟩ := hrel
      have hb0 := Below.refl w.heap.size w
      by_cases hlt : k < n
      · obtain ⟨x, hx⟩ : ∃ x, es[k]? = some x := ⟨_, List.getElem?_eq_getElem (by rw [HN.out]; exact hlt)⟩
        obtain ⟨y, hy⟩ : ∃ y, ms[k]? = some y := ⟨_, List.getElem?_eq_getElem (by rw [HM.out]; exact hlt)⟩
        obtain ⟨b1, o1, c1, av, hv1, -, p0, p1, p2, p3, p4, hav⟩ := hr.get hb0 hB k x hx
        rw [HN.out] at hv1
        cases hv1
        have hxz := hz x (List.mem_of_getElem? hx)
        have hd := decide_eq_true (show (k : Int) < (n : Int) by omega)
        obtain ⟨aa, ac, rfl, -⟩ := id hav
        obtain ⟨b2, o2, c2, bv, hv2, -, q0, q1, q2, q3, q4, hbv⟩ := hm.get hb0 hB k y hy
        rw [HM.out] at hv2
        cases hv2
        obtain ⟨ba, bc, rfl, -⟩ := id hbv
        have hdf : x ≠ y → sameP es ms = false := fun h => sameP_ne fun e => by
          rw [e, hy] at hx
          injection hx with h1
          exact h h1.symm
        have hnx : x = y → es.take (k + 1) = ms.take (k + 1) := fun h => by rw [List.take_add_one, List.take_add_one, HS.out, hx, hy, h]
        have HDF := Lib.hid hdf
        have HNX := Lib.hid hnx
        obtain ⟨xk, ⟨x1, x2⟩, xa, xt⟩ := x
        obtain ⟨yk, ⟨y1, y2⟩, ya, yt⟩ := y
        simp only at p0 p1 p2 p3 p4 q0 q1 q2 q3 q4 hav hbv hxz
        have HR := Lib.hid (And.intro hr hm)
        clear hr hm hx hy hz hdf hnx
        have hcs : ((xk != yk) = true) ∨ ((xk != yk) = false ∧ (x1.toList == y1.toList) = false) ∨ ((xk != yk) = false ∧ (x1.toList == y1.toList) = true ∧ (x2.toList == y2.toList) = false) ∨ ((xk != yk) = false ∧ (x1.toList == y1.toList) = true ∧ (x2.toList == y2.toList) = true ∧ (xt.toList != yt.toList) = true) ∨
            ((xk != yk) = false ∧ (x1.toList == y1.toList) = true ∧ (x2.toList == y2.toList) = true ∧ (xt.toList != yt.toList) = false ∧ ((xa.length : Int) != (ya.length : Int)) = true) ∨ (xk = yk ∧ x1 = y1 ∧ x2 = y2 ∧ xt = yt ∧ xa.length = ya.length) := by
          by_cases h0 : xk = yk
          · by_cases h1 : x1 = y1
            · by_cases h2 : x2 = y2
              · by_cases h3 : xt = yt
                · by_cases h4 : xa.length = ya.length
                  · exact .inr (.inr (.inr (.inr (.inr ⟨h0, h1, h2, h3, h4⟩))))
                  · exact .inr (.inr (.inr (.inr (.inl ⟨by simp [h0], by rw [h1]; simp, by rw [h2]; simp, by rw [h3]; simp, by simp; omega⟩))))
                · exact .inr (.inr (.inr (.inl ⟨by simp [h0], by rw [h1]; simp, by rw [h2]; simp, by have := toL_ne h3; unfold bne; rw [this]; rfl⟩)))
              · exact .inr (.inr (.inl ⟨by simp [h0], by rw [h1]; simp, toL_ne h2⟩))
            · exact .inr (.inl ⟨by simp [h0], toL_ne h1⟩)
          · exact .inl (by simpa using h0)
        have hbd := fun j => below_dn (Below.refl w.heap.size w) j
        rcases hcs with g0 | ⟨g0, g1⟩ | ⟨g0, g1, g2⟩ | ⟨g0, g1, g2, g3⟩ | ⟨g0, g1, g2, g3, g4⟩ | ⟨rfl, rfl, rfl, rfl, h4⟩
        · have HD := Lib.hid (HDF.out fun h => by injection h with h1; rw [h1] at g0; simp at g0)
          clear HDF HNX HR
          go_wp2_with fail
          go_quiet (fail)
          go_wp2_with fail
          go_ret
          exact ⟨ret_bool HD.out.symm, below_dn (hbd _) _⟩
        · have HD := Lib.hid (HDF.out fun h => by injection h with h1 h2; injection h2 with h2; rw [h2] at g1; simp at g1)
          clear HDF HNX HR
          go_wp2_with fail
          go_quiet (fail)
          go_wp2_with fail
          go_ret
          exact ⟨ret_bool HD.out.symm, below_dn (hbd _) _⟩
        · have HD := Lib.hid (HDF.out fun h => by injection h with h1 h2; injection h2 with h2 h3; rw [h3] at g2; simp at g2)
          clear HDF HNX HR
          go_wp2_with fail
          go_quiet (fail)
          go_wp2_with fail
          go_ret
          exact ⟨ret_bool HD.out.symm, below_dn (hbd _) _⟩
        · have HD := Lib.hid (HDF.out fun h => by injection h with h1 h2 h3 h4; rw [h4] at g3; simp at g3)
          have g3b : (xt.toList == yt.toList) = false := by unfold bne at g3; simpa using g3
          clear HDF HNX HR
          go_wp2_with fail
          go_quiet (fail)
          go_wp2_with fail
          go_ret
          exact ⟨ret_bool HD.out.symm, below_dn (hbd _) _⟩
        · have HD := Lib.hid (HDF.out fun h => by injection h with h1 h2 h3 h4; rw [h3] at g4; simp at g4)
          have g3b : (xt.toList == yt.toList) = true := by unfold bne at g3; simpa using g3
          clear HDF HNX HR
          go_wp2_with fail
          go_quiet (fail)
          go_wp2_with fail
          go_ret
          exact ⟨ret_bool HD.out.symm, below_dn (hbd _) _⟩
        · have t0 : (xk != xk) = false := by simp
          have t1 := toL_self x1
          have t2 := toL_self x2
          have t3 : (xt.toList != xt.toList) = false := by simp
          obtain ⟨r, hr4⟩ : ∃ r, xa.length = r := ⟨_, rfl⟩
          have HX := Lib.hid hr4
          have HY := Lib.hid (h4.symm.trans hr4)
          rw [hr4] at hav p3 hxz
          rw [HY.out] at hbv q3
          have t4 : ((r : Int) != (r : Int)) = false := by simp
          clear hr4 h4
          go_wp2_with fail
          go_quiet (fail)
          go_wp2_with fail
          go_loopw [6] (fun i wi => ∃ c m2 : Nat, i = .int .i64 c ∧ c ≤ r ∧ Hid (xa.take c = ya.take c) ∧ wi = w.drewN m2) (fun i _ => r - (intOf i).toNat)
          case atStart => exact ⟨0, m + nq, rfl, by omega, Lib.hid rfl, by simp [World.drewN, Nat.add_assoc]⟩
          case round =>
            obtain ⟨c, m2, rfl, hc, HC, rfl⟩ := hrel
            by_cases hlc : c < r
            · obtain ⟨x, hx⟩ : ∃ x, xa[c]? = some x := ⟨_, List.getElem?_eq_getElem (by rw [HX.out]; exact hlc)⟩
              obtain ⟨y, hy⟩ : ∃ y, ya[c]? = some y := ⟨_, List.getElem?_eq_getElem (by rw [HY.out]; exact hlc)⟩
              obtain ⟨b3, o3, c3, hv3, r0, r1, r2⟩ := hav.attr hb0 hB c x hx
              obtain ⟨b4, o4, c4, hv4, s0, s1, s2⟩ := hbv.attr hb0 hB c y hy
              cases hv3
              cases hv4
              have hdc := decide_eq_true (show (c : Int) < (r : Int) by omega)
              by_cases hxy : x = y
              · subst hxy
                have HC2 := Lib.hid (show xa.take (c + 1) = ya.take (c + 1) by rw [List.take_add_one, List.take_add_one, HC.out, hx, hy])
                have u1 := toL_self x.1.1
                have u2 := toL_self x.1.2
                have u3 := toL_self x.2
                clear hav hbv hx hy HC HDF HNX HR
                go_wp2_with fail
                go_quiet (fail)
                go_wp2_with fail
                exact ⟨⟨c + 1, m2 + nq, by go_num, by omega, HC2, by simp [World.drewN]⟩, by simp [intOf]; omega⟩
              · have HD := Lib.hid (HDF.out fun h => by
                  injection h with h1 h2 h3 h4
                  rw [h3, hy] at hx
                  injection hx with h5
                  exact hxy h5.symm)
                have hne : (x.1.1.toList == y.1.1.toList) = false ∨ ((x.1.1.toList == y.1.1.toList) = true ∧ (x.1.2.toList == y.1.2.toList) = false) ∨ ((x.1.1.toList == y.1.1.toList) = true ∧ (x.1.2.toList == y.1.2.toList) = true ∧ (x.2.toList == y.2.toList) = false) := by
                  by_cases h1 : x.1.1 = y.1.1
                  · by_cases h2 : x.1.2 = y.1.2
                    · refine .inr (.inr ⟨by rw [h1]; simp, by rw [h2]; simp, toL_ne fun h3 => hxy (Prod.ext (Prod.ext h1 h2) h3)⟩)
                    · exact .inr (.inl ⟨by rw [h1]; simp, toL_ne h2⟩)
                  · exact .inl (toL_ne h1)
                clear hav hbv hx hy HC HDF HNX HR hxy
                rcases hne with g1 | ⟨g1, g2⟩ | ⟨g1, g2, g3⟩
                all_goals
                  go_wp2_with fail
                  go_quiet (fail)
                  go_wp2_with fail
                  go_ret
                  exact ⟨ret_bool HD.out.symm, below_dn (hbd _) _⟩
            · have hdc := decide_eq_false (show ¬ (c : Int) < (r : Int) by omega)
              have hxy : xa = ya := by
                have hs := HC.out
                rw [List.take_of_length_le (by rw [HX.out]; omega), List.take_of_length_le (by rw [HY.out]; omega)] at hs
                exact hs
              have HN2 := Lib.hid (HNX.out (by rw [hxy]))
              clear hav hbv HC HDF HNX HR hxy
              go_wp2_with fail
              exact ⟨⟨k + 1, m2, by go_num, by omega, HN2, rfl⟩, by simp [intOf]; omega⟩
      · have hd := decide_eq_false (show ¬ (k : Int) < (n : Int) by omega)
        have hlm : es = ms := by
          have hs := HS.out
          rw [List.take_of_length_le (by rw [HN.out]; omega), List.take_of_length_le (by rw [HM.out]; omega)] at hs
          exact hs
        have HD := Lib.hid (sameP_iff.2 hlm)
        clear hr hm hlm
        go_wp2_with fail
        go_ret
        exact ⟨ret_bool HD.out.symm, below_dn (Below.refl _ _) _⟩
  · have HD := Lib.hid (sameP_ne (show ¬ es = ms from fun e => hle (by rw [e])))
    have hd : ¬ ((es.length : Int) = (ms.length : Int)) := by omega
    clear hr hm hnn
    go_enter Try.func27, Try.ntmps27
    go_wp2_with fail
    go_ret
    exact ⟨ret_bool HD.out.symm, Below.refl _ _⟩
end Go.Proofs.Yteefopeclfojiaa
/- 
  Layer 16: rows of events of the call's own; the walk of the document's Put.
 -/
namespace Go.Proofs.Yteefopeclfojiaa
open Go.RowKit
theorem evsC_app : ∀ (es : List Evt) (avs : List Value) (ms : List Evt) (bvs : List Value), avs.length = es.length → evsC (es ++ ms) (avs ++ bvs) = evsC es avs ++ evsC ms bvs
  | [], [], ms, bvs, _ => by simp [evsC]
  | e :: es, a :: as_, ms, bvs, h => by
    rw [List.cons_append, List.cons_append, evsC, evsC, evsC_app es as_ ms bvs (by simpa using h), List.append_assoc]
theorem AtsR.app {B : Nat} {w : World} : ∀ {es : List Evt} {avs : List Value} {ms : List Evt} {bvs : List Value}, AtsR B w es avs → AtsR B w ms bvs → AtsR B w (es ++ ms) (avs ++ bvs)
  | [], [], _, _, _, h => h
  | _ :: _, _ :: _, _, _, h, h2 => ⟨h.1, AtsR.app h.2 h2⟩
theorem evsC_one {B : Nat} {w : World} : ∀ {es : List Evt} {avs : List Value}, AtsR B w es avs → ∀ u ∈ evsC es avs, u.oneCell' = true
  | [], [], _, u, hu => by simp [evsC] at hu
  | e :: es, a :: as_, h, u, hu => by
    rw [evsC] at hu
    rcases List.mem_append.1 hu with hu | hu
    · refine evC_one ?_ u hu
      obtain ⟨x, c, rfl, -⟩ := h.1
      rfl
    · exact evsC_one h.2 u hu
/-- a row of events of the call's own; their attributes lie below B. -/
def OwnE (B base : Nat) (w : World) (v : Value) (es : List Evt) : Prop := ∃ avs, w.ownsRow base 30 5 v es.length (evsC es avs) ∧ AtsR B w es avs
theorem OwnE.nil (B base : Nat) (w : World) : OwnE B base w (.slice none 0 0) [] := ⟨[], World.ownsRow_nil _ _ _ _, trivial⟩
theorem OwnE.reads {B base : Nat} {w : World} {v : Value} {es : List Evt} (h : OwnE B base w v es) (hB : B ≤ w.heap.size) : EvsR w.heap.size w v es := by
  obtain ⟨avs, h1, h2⟩ := h
  exact ⟨avs, CReads.of_own h1, h2.mono hB⟩
theorem own_capR {w : World} {base : Nat} {e : TypeId} {size : Nat} {v : Value} {n : Nat} {xs : List Value} (h : w.ownsRow base e size v n xs) : CapR v n := by
  rcases h.2 with ⟨rfl, rfl⟩ | ⟨g, cap, cur, rfl, _, _, h2, h3, _⟩
  · exact ⟨none, 0, rfl, Nat.le_refl _, Nat.zero_le _⟩
  · exact ⟨_, cap, rfl, h2, h3⟩
theorem OwnE.cap {B base : Nat} {w : World} {v : Value} {es : List Evt} (h : OwnE B base w v es) : CapR v es.length := by
  obtain ⟨avs, h1, h2⟩ := h
  exact own_capR h1
theorem OwnE.below {B base : Nat} {w w' : World} {v : Value} {es : List Evt} (h : OwnE B base w v es) {C : Nat} (hb : Below C w w') (hC : w.heap.size ≤ C) (hB : B ≤ C) : OwnE B base w' v es := by
  obtain ⟨avs, h1, h2⟩ := h
  exact ⟨avs, own_below h1 hb hC, h2.below hb hB⟩
theorem OwnE.mono {B C base : Nat} {w : World} {v : Value} {es : List Evt} (h : OwnE B base w v es) (hBC : B ≤ C) : OwnE C base w v es := by
  obtain ⟨avs, h1, h2⟩ := h
  exact ⟨avs, h1, h2.mono hBC⟩
set_option maxRecDepth 100000 in
/-- 'append(l, ms...)' onto a row of the call's own. -/
theorem OwnE.apps {B base : Nat} {w : World} {v u : Value} {es ms : List Evt} (h : OwnE B base w v es) (hm : EvsR B w u ms) (hbb : B ≤ base) (hbase : base ≤ w.heap.size) (hn : es.length + ms.length ≤ 1000000) :
    ∃ v' w', (Builtin.append_ #[22, 22] 22 #[v, u]).run Try.prog w = .ok v' w' ∧ OwnE B base w' v' (es ++ ms) ∧ Below base w w' := by
  obtain ⟨avs, h1, h2⟩ := h
  obtain ⟨bvs, ⟨a, cap, rfl, hc⟩, h4⟩ := hm
  obtain ⟨i0, hi, hz0, hz1, hz2⟩ := info_parts infoEvt
  have hal := h2.len
  cases a with
  | none =>
    have hms : ms = [] := by
      cases ms with
      | nil => rfl
      | cons e r =>
        cases bvs with
        | nil => exact h4.elim
        | cons b bs =>
          obtain ⟨b, off, hh, -⟩ := hc 0 (.int .i8 e.k) rfl
          cases hh
    subst hms
    obtain ⟨x, l, c, hv⟩ := own_slice h1
    have hlc : l ≤ c := by
      obtain ⟨a', c', h5, h6, -⟩ := own_capR h1
      rw [hv] at h5
      injection h5 with h7 h8 h9
      omega
    subst hv
    refine ⟨_, w, run_append_nothing w _ _ _ _ i0 Try.underlying22 hi x l c hlc _ ⟨.inl ⟨_, Try.underlying22⟩, fun _ => rfl, rfl, rfl, by simp, by simp⟩, ?_, Below.refl _ _⟩
    rw [List.append_nil]
    exact ⟨avs, h1, h2⟩
  | some ad =>
    obtain ⟨v', w', hrun, k1, k2, _⟩ := run_append_own (P := Try.prog) w base 22 22 30 i0 _ 5 80 Try.underlying22 hi hz0 hz1 hz2 rfl (by decide) v es.length _ h1 ad ms.length cap (evsC ms bvs) (evsC_len ms bvs h4.len)
      (fun j u hj => by
        obtain ⟨b, off, hbb, _, hcc⟩ := hc j u hj
        injection hbb with hbb
        subst hbb
        rw [show (⟨b, off, none⟩ : Addr).add j = ⟨b, off + j, none⟩ by unfold Addr.add; split <;> simp_all]
        exact hcc)
      (evsC_one h4) (by unfold maxLen; omega) (by omega) hbase
    have hb := ownBelow h1 k2 (Nat.le_refl _) hbase
    refine ⟨v', w', hrun, ⟨avs ++ bvs, ?_, (h2.below hb hbb).app (h4.below hb hbb)⟩, hb⟩
    rw [evsC_app es avs ms bvs hal, List.length_append]
    exact k1
set_option maxRecDepth 100000 in
/-- 'append(l, x)' onto a row of the call's own. -/
theorem OwnE.app1 {B base : Nat} {w : World} {v : Value} {es : List Evt} (h : OwnE B base w v es) (x : Evt) (av : Value) (hx : CReads B w av x.at_.length (atC x.at_)) (hbb : B ≤ base) (hbase : base ≤ w.heap.size) (hn : es.length < 1000000) :
    ∃ v' w', (Builtin.append_ #[22, 22] 22 #[v, .slice (some ⟨w.heap.size, 0, none⟩) 1 1]).run Try.prog (w.alloc (.cells #[.int .i8 x.k, .string x.n.1, .string x.n.2, av, .string x.tx] 30)) = .ok v' w' ∧ OwnE B base w' v' (es ++ [x]) ∧ Below base w w' := by
  obtain ⟨avs, h1, h2⟩ := h
  obtain ⟨i0, hi, hz0, hz1, hz2⟩ := info_parts infoEvt
  have hal := h2.len
  have hav : av.oneCell' = true := by
    obtain ⟨a, c, rfl, -⟩ := id hx
    rfl
  obtain ⟨v', w', hrun, k1, k2, _⟩ := run_append_own (P := Try.prog) (w.alloc (.cells #[.int .i8 x.k, .string x.n.1, .string x.n.2, av, .string x.tx] 30)) base 22 22 30 i0 _ 5 80 Try.underlying22 hi hz0 hz1 hz2 rfl (by decide) v es.length _ (h1.alloc _) ⟨w.heap.size, 0, none⟩ 1 1 (evC x av) rfl
    (fun j u hj => by
      rw [addr0, World.cell?_alloc_mark]
      simpa [evC] using hj)
    (evC_one hav) (by unfold maxLen; omega) (by omega) (by simp; omega)
  have hb := ((Below.refl base w).alloc hbase (.cells #[.int .i8 x.k, .string x.n.1, .string x.n.2, av, .string x.tx] 30)).trans (ownBelow (h1.alloc _) k2 (Nat.le_refl _) (by simp; omega))
  refine ⟨v', w', hrun, ⟨avs ++ [av], ?_, (h2.below hb hbb).snoc (hx.below hb hbb)⟩, hb⟩
  rw [evsC_snoc es avs x av hal, List.length_append]
  exact k1
/-- a row that is written out. -/
theorem OwnE.lit {B base : Nat} {w : World} {es : List Evt} (avs : List Value) (C : Array Value) (hC : C.toList = evsC es avs) (ha : AtsR B (w.alloc (.cells C 30)) es avs) (hb : base ≤ w.heap.size) (n : Nat) (hn : es.length = n) (hm : n ≤ 1000000) :
    OwnE B base (w.alloc (.cells C 30)) (.slice (some ⟨w.heap.size, 0, none⟩) n n) es := by
  have hl := evsC_len es avs ha.len
  subst hn
  refine ⟨avs, ⟨hl, .inr ⟨w.heap.size, es.length, C, rfl, hb, heap_alloc_new w _, Nat.le_refl _, by unfold maxLen; omega, ?_, ?_⟩⟩, ha⟩
  · rw [← Array.length_toList, hC, hl]
  · rw [hC, List.take_of_length_le (by omega)]
theorem evsC_set_tx : ∀ (es : List Evt) (avs : List Value) (e : Evt) (a : Value) (t : ByteArray), avs.length = es.length → (evsC (es ++ [e]) (avs ++ [a])).set (es.length * 5 + 4) (.string t) = evsC (es ++ [{ e with tx := t }]) (avs ++ [a])
  | [], [], e, a, t, _ => by simp [evsC, evC]
  | x :: es, y :: as_, e, a, t, h => by
    have ih := evsC_set_tx es as_ e a t (by simpa using h)
    rw [List.cons_append, List.cons_append, evsC, List.cons_append, evsC, List.set_append_right (h := by show 5 ≤ _; rw [List.length_cons]; omega)]
    rw [show (x :: es).length * 5 + 4 - (evC x y).length = es.length * 5 + 4 by rw [List.length_cons]; show (es.length + 1) * 5 + 4 - 5 = _; omega, ih]
theorem AtsR.retx {B : Nat} {w : World} : ∀ (es : List Evt) {e : Evt} {avs : List Value} (t : ByteArray), AtsR B w (es ++ [e]) avs → AtsR B w (es ++ [{ e with tx := t }]) avs
  | [], _, [], _, h => h.elim
  | [], _, _ :: [], _, h => h
  | [], _, _ :: _ :: _, _, h => h.2.elim
  | _ :: _, _, [], _, h => h.elim
  | _ :: es, _, _ :: _, t, h => ⟨h.1, AtsR.retx es t h.2⟩
set_option maxRecDepth 100000 in
set_option maxHeartbeats 8000000 in
theorem ref16_Put (B : Nat) (es : List Evt) (v : Value) (x : Evt) (av : Value) (w : World) (hr : EvsR B w v es) (hB : B ≤ w.heap.size) (hx : CReads B w av x.at_.length (atC x.at_)) (hcap : CapR v es.length) (hn : es.length < 1000000)
    (hz : ∀ e ∈ es, e.tx.size ≤ 1152921504606846976) (hxz : x.tx.size ≤ 1152921504606846976) :
    Calls Try.prog 29 #[v, evV x av] w fun r w' => PutS w w' (putP es x) r := by
  obtain ⟨a, cap, rfl, hc1, hc2⟩ := hcap
  obtain ⟨k, ⟨n1, n2⟩, ats, tx⟩ := x
  obtain ⟨aa, ac, rfl, -⟩ := id hx
  simp only at hx hxz
  have bX := BlkAt.new w #[.int .i8 k, .string n1, .string n2, .slice aa ats.length ac, .string tx] 30
  have hb1 := (Below.refl w.heap.size w).alloc (Nat.le_refl _) (.cells #[.int .i8 k, .string n1, .string n2, .slice aa ats.length ac, .string tx] 30)
  unfold evV
  simp only
  have hs1 : (w.alloc (.cells #[.int .i8 k, .string n1, .string n2, .slice aa ats.length ac, .string tx] 30)).heap.size = w.heap.size + 1 := World.size_alloc _ _
  obtain ⟨w1, hw1⟩ : ∃ y, w.alloc (.cells #[.int .i8 k, .string n1, .string n2, .slice aa ats.length ac, .string tx] 30) = y := ⟨_, rfl⟩
  rw [hw1] at bX hb1 hs1
  have e0 : _ = some (Value.int .i8 k) := bX.cell 0 rfl
  have e4 : _ = some (Value.string tx) := bX.cell 4 rfl
  have hB1 : B ≤ w1.heap.size := Nat.le_trans hB hb1.size
  obtain ⟨v2, w2, hrun, hO, hb2⟩ := (OwnE.nil B w1.heap.size w1).apps (hr.below hb1 hB) hB1 (Nat.le_refl _) (by simp; omega)
  rw [List.nil_append] at hO
  have HR := Lib.hid hrun
  have bX2 := bX.below hb2 bX.lt
  have hbw2 := hb1.trans (hb2.mono hb1.size)
  clear hrun
  by_cases hsk : k = 2 ∧ emB tx = true
  · obtain ⟨rfl, hem⟩ := hsk
    have q0 : (tx.toList == []) = true := by rw [emB_eq]; exact hem
    have hp : putP es ⟨2, (n1, n2), ats, tx⟩ = es := by unfold putP; rw [if_pos rfl, if_pos hem]
    have hO2 : PutS w w1 (putP es ⟨2, (n1, n2), ats, tx⟩) (.returned (.slice a es.length cap)) := by
      rw [hp]
      exact ⟨_, rfl, (hr.below hb1 hB).mono hB1, ⟨a, cap, rfl, by omega, hc2⟩, hb1⟩
    have HO2 := Lib.hid hO2
    clear hp hO2 hO HR hr hx hz hem hs1
    go_enter Try.func29, Try.ntmps29
    go_wp2_with fail
    go_ret
    exact HO2.out
  · obtain ⟨va, vl, vc, hv2⟩ : ∃ a l c, v2 = .slice a l c := by
      obtain ⟨avs, h1, -⟩ := hO
      exact own_slice h1
    have hvl : vl = es.length ∧ vl ≤ vc := by
      obtain ⟨a', c', h5, h6, -⟩ := hO.cap
      rw [hv2] at h5
      injection h5 with h7 h8 h9
      omega
    subst hv2
    obtain ⟨nn, hnn⟩ : ∃ n, es.length = n := ⟨_, rfl⟩
    have HNN := Lib.hid hnn
    rw [hnn] at hc1 hn hvl HR
    obtain ⟨hvl1, hvc⟩ := hvl
    subst hvl1
    have e0b : w2.cell? ⟨w.heap.size, 0, none⟩ = some (Value.int .i8 k) := bX2.cell 0 rfl
    have e1b : w2.cell? ⟨w.heap.size, 1, none⟩ = some (Value.string n1) := bX2.cell 1 rfl
    have e2b : w2.cell? ⟨w.heap.size, 2, none⟩ = some (Value.string n2) := bX2.cell 2 rfl
    have e3b : w2.cell? ⟨w.heap.size, 3, none⟩ = some (Value.slice aa ats.length ac) := bX2.cell 3 rfl
    have e4b : w2.cell? ⟨w.heap.size, 4, none⟩ = some (Value.string tx) := bX2.cell 4 rfl
    -- the last arm: one more is put behind
    obtain ⟨v3, w3, hrun3, hO3, hb3⟩ := hO.app1 ⟨k, (n1, n2), ats, tx⟩ (.slice aa ats.length ac) (hx.below hbw2 hB) hB1 hb2.size (by omega)
    have HR3 := Lib.hid hrun3
    have HPUT : putP es ⟨k, (n1, n2), ats, tx⟩ = es ++ [⟨k, (n1, n2), ats, tx⟩] → Hid (PutS w w3 (putP es ⟨k, (n1, n2), ats, tx⟩) (.returned v3)) := fun h => Lib.hid (by
      have hbw3 := hbw2.trans (hb3.mono hb1.size)
      rw [h]
      exact ⟨v3, rfl, hO3.reads (Nat.le_trans hB hbw3.size), hO3.cap, hbw3⟩)
    have HP := Lib.hid HPUT
    clear HPUT hrun3
    by_cases hk : k = 2
    · subst hk
      have hem : emB tx = false := by
        cases h : emB tx with
        | false => rfl
        | true => exact absurd ⟨rfl, h⟩ hsk
      have q0 : (tx.toList == []) = false := by rw [emB_eq]; exact hem
      rcases Nat.eq_zero_or_pos vl with h0 | h0
      · have hes : es = [] := List.eq_nil_of_length_eq_zero (by omega)
        have HO2 := HP.out (by unfold putP; rw [if_pos rfl, if_neg (by rw [hem]; decide), hes]; rfl)
        subst h0
        clear hr hx hz hem hes hO hO3 HP hsk bX2 hs1
        rw [hnn]
        go_enter Try.func29, Try.ntmps29
        go_wp2_with first
          | (at_builtin; refine wpList_append_run rfl _ _ _ _ rfl _ _ rfl rfl _ _ HR.out ?_; clear HR)
          | (at_builtin; refine wpList_append_run rfl _ _ _ _ rfl _ _ rfl rfl _ _ HR3.out ?_; clear HR3)
        go_ret
        exact HO2.out
      · obtain ⟨e, he⟩ : ∃ e, es[vl - 1]? = some e := ⟨_, List.getElem?_eq_getElem (by omega)⟩
        have hgl : es.getLast? = some e := by rw [List.getLast?_eq_getElem?, hnn]; exact he
        obtain ⟨g, hva, hcg⟩ : ∃ g, va = some ⟨g, 0, none⟩ ∧ ∃ avs, w2.ownsRow w1.heap.size 30 5 (.slice (some ⟨g, 0, none⟩) vl vc) vl (evsC es avs) ∧ AtsR B w2 es avs := by
          obtain ⟨avs, h1, h2⟩ := hO
          rcases h1.2 with ⟨h3, h4⟩ | ⟨g, cap', cur, h3, -⟩
          · omega
          · injection h3 with h4 h5 h6
            subst h4
            exact ⟨g, rfl, avs, by rw [hnn] at h1; exact h1, h2⟩
        subst hva
        obtain ⟨b, off, cap', av, hv, hbB, c0, c1, c2, c3, c4, hav⟩ := (hO.reads (Nat.le_trans hB1 hb2.size)).get (Below.refl _ w2) (Nat.le_refl _) (vl - 1) e he
        rw [hnn] at hv
        cases hv
        rw [Nat.zero_add] at c0 c1 c2 c3 c4
        have hq2 : ((vl : Int) - 1) = ((vl - 1 : Nat) : Int) := by omega
        have hq3 : vl - 1 < vl := by omega
        have hq7 : IntKind.i64.wrap ((vl - 1 : Nat) : Int) = ((vl - 1 : Nat) : Int) := by rw [IntKind.wrap_i64]; omega
        have hd0 := decide_eq_true (show (0 : Int) < (vl : Int) by omega)
        by_cases hek : e.k = 2
        · obtain ⟨ek, ⟨en1, en2⟩, eat, etx⟩ := e
          simp only at hek c0 c1 c2 c3 c4 hav
          subst hek
          have htz := hz _ (List.mem_of_getElem? he)
          simp only at htz
          have hq5 : ¬ (9223372036854775807 : Nat) < etx.size + tx.size := by omega
          obtain ⟨avs, hrow, hats⟩ := hcg
          have hfz := hrow.frozenAt ((vl - 1) * 5 + 4)
          have hp : putP es ⟨2, (n1, n2), ats, tx⟩ = es.dropLast ++ [⟨2, (en1, en2), eat, etx ++ tx⟩] := by unfold putP; rw [if_pos rfl, if_neg (by rw [hem]; decide), hgl]; exact if_pos rfl
          have hfin : PutS w (w2.drew.setCell ⟨g, (vl - 1) * 5 + 4, none⟩ (.string (etx ++ tx))) (putP es ⟨2, (n1, n2), ats, tx⟩) (.returned (.slice (some ⟨g, 0, none⟩) vl vc)) := by
            obtain ⟨ini, hini⟩ := List.getLast?_eq_some_iff.1 hgl
            have hil : ini.length = vl - 1 := by rw [← hnn, hini]; simp
            have hal := hats.len
            have hane : avs ≠ [] := by intro e; rw [e] at hal; simp at hal; omega
            obtain ⟨aini, a0, rfl⟩ : ∃ aini a0, avs = aini ++ [a0] := ⟨avs.dropLast, avs.getLast hane, (List.dropLast_concat_getLast hane).symm⟩
            have hail : aini.length = ini.length := by
              rw [hini] at hal
              simpa using hal
            have hbd : Below w1.heap.size w2 w2.drew := (Below.refl _ w2).drew
            have hrd := own_below hrow ((Below.refl w2.heap.size w2).drew) (Nat.le_refl _)
            have hg1 : w1.heap.size ≤ g := (hrow.lt g rfl).1
            obtain ⟨k1, k2⟩ := hrd.stored ((vl - 1) * 5 + 4) (.string (etx ++ tx))
            have hbs : Below w1.heap.size w2 (w2.drew.setCell ⟨g, (vl - 1) * 5 + 4, none⟩ (.string (etx ++ tx))) := hbd.setCell (p := ⟨g, (vl - 1) * 5 + 4, none⟩) hg1 _
            have hO' : OwnE B w1.heap.size (w2.drew.setCell ⟨g, (vl - 1) * 5 + 4, none⟩ (.string (etx ++ tx))) (.slice (some ⟨g, 0, none⟩) vl vc) (ini ++ [⟨2, (en1, en2), eat, etx ++ tx⟩]) := by
              refine ⟨aini ++ [a0], ?_, ?_⟩
              · rw [hini, ← hil, evsC_set_tx ini aini _ a0 _ hail] at k1
                rw [List.length_append, show ini.length + [(⟨2, (en1, en2), eat, etx ++ tx⟩ : Evt)].length = vl by rw [hil]; simp; omega]
                rw [← hil]
                exact k1
              · rw [hini] at hats
                exact (hats.retx ini (etx ++ tx)).below hbs hB1
            have hdl : es.dropLast = ini := by rw [hini]; simp
            have hlen := hO'.cap
            have hbw' := hb1.trans (hbs.mono hb1.size |> fun h => ((hb2.mono (Nat.le_refl _)).mono hb1.size).trans h)
            rw [hp, hdl]
            exact ⟨_, rfl, hO'.reads (Nat.le_trans hB hbw'.size), hlen, hbw'⟩
          have HF := Lib.hid hfin
          clear hp hfin hrow hats
          clear hr hx hz hem hO hO3 HP hsk bX2 hs1 HR3 hav
          rw [hnn]
          go_enter Try.func29, Try.ntmps29
          go_wp2_with (at_builtin; refine wpList_append_run rfl _ _ _ _ rfl _ _ rfl rfl _ _ HR.out ?_; clear HR)
          have r4 : World.cell? { heap := w2.heap, tape := w2.tape, drawn := w2.drawn + 1, os := w2.os, output := w2.output } ⟨g, (vl - 1) * 5 + 4, none⟩ = some (.string etx) := c4
          have s4 : World.cell? { heap := w2.heap, tape := w2.tape, drawn := w2.drawn + 1, os := w2.os, output := w2.output } ⟨w.heap.size, 4, none⟩ = some (.string tx) := e4b
          have z4 : World.frozen? { heap := w2.heap, tape := w2.tape, drawn := w2.drawn + 1, os := w2.os, output := w2.output } ⟨g, (vl - 1) * 5 + 4, none⟩ = false := hfz
          go_still_tail 14, (by kernel_rfl)
          go_wp2_with fail
          go_ret
          exact HF.out
        · have q1 : (e.k == 2) = false := by simpa using hek
          have HO2 := HP.out (by unfold putP; rw [if_pos rfl, if_neg (by rw [hem]; decide), hgl]; exact if_neg hek)
          clear hr hx hz hem hO hO3 HP hsk bX2 hs1 hcg hav
          rw [hnn]
          go_enter Try.func29, Try.ntmps29
          go_wp2_with first
            | (at_builtin; refine wpList_append_run rfl _ _ _ _ rfl _ _ rfl rfl _ _ HR.out ?_; clear HR)
            | (at_builtin; refine wpList_append_run rfl _ _ _ _ rfl _ _ rfl rfl _ _ HR3.out ?_; clear HR3)
          go_ret
          exact HO2.out
    · have q0 : (k == 2) = false := by simpa using hk
      have HO2 := HP.out (by unfold putP; rw [if_neg hk])
      clear hr hx hz hO hO3 HP hsk bX2 hs1
      rw [hnn]
      go_enter Try.func29, Try.ntmps29
      go_wp2_with first
        | (at_builtin; refine wpList_append_run rfl _ _ _ _ rfl _ _ rfl rfl _ _ HR.out ?_; clear HR)
        | (at_builtin; refine wpList_append_run rfl _ _ _ _ rfl _ _ rfl rfl _ _ HR3.out ?_; clear HR3)
      go_ret
      exact HO2.out
end Go.Proofs.Yteefopeclfojiaa
/- 
  Layer 16: the walk of wakes.
 -/
namespace Go.Proofs.Yteefopeclfojiaa
open Go.RowKit
/-- the events of wakes. -/
def wkE : List Evt := [⟨0, (⟨#[]⟩, ⟨#[97]⟩), [], ⟨#[]⟩⟩, ⟨2, (⟨#[]⟩, ⟨#[]⟩), [], ⟨#[120]⟩⟩, ⟨0, (⟨#[]⟩, ⟨#[98]⟩), [], ⟨#[]⟩⟩, ⟨2, (⟨#[]⟩, ⟨#[]⟩), [], ⟨#[121]⟩⟩, ⟨1, (⟨#[]⟩, ⟨#[98]⟩), [], ⟨#[]⟩⟩, ⟨1, (⟨#[]⟩, ⟨#[97]⟩), [], ⟨#[]⟩⟩]
theorem emB_data (s : ByteArray) : emB s = s.data.toList.isEmpty := by unfold emB; rw [ByteArray.toList_eq]
def wkG : Gr := ⟨[], [(2, .int .i64 4), (0, .int .i64 5)], 2⟩
theorem wk_grow : growP wkE = some wkG := by
  simp [wkG, wkE, growP, grun, gstep, gbody, gfin, fldB, attGo, emB_data, aPut]
theorem wk_at : atP wkE 0 = some wkG := by
  unfold atP
  rw [if_pos (by simp [wkE]), wk_grow]
theorem wk_kids : kidsP wkE 0 = [2] := by
  unfold kidsP
  rw [wk_at]
  simp [kidsL, kidF, endN, endO, wkG, aGet]
theorem wk_text : strOfNums (textP wkE 0) = ⟨#[120, 121]⟩ := by
  unfold textP
  rw [wk_at]
  simp [endN, wkG, aGet, wkE, txsL, nums, strOfNums]
theorem wk_own : strOfNums (ownP wkE 0) = ⟨#[120]⟩ := by
  unfold ownP
  rw [wk_at, wk_kids]
  simp [endN, endO, wkG, aGet, wkE, txsL, nums, strOfNums, ownL, segL, fromK]
theorem wk_end : endV wkG 0 = .int .i64 5 := by simp [endV, wkG, aGet]
theorem wk_dep : depP wkE = 2 := by unfold depP; rw [wk_grow]; rfl
theorem nilC (B : Nat) (w : World) : CReads B w (.slice none 0 0) 0 [] := ⟨none, 0, rfl, fun i u h => by simp at h⟩
theorem results_cell1 {P : Program} {fn : Func} {p : Tmp} {ty : TypeId} (h : fn.results = #[.cell p ty]) (tmps : Array Value) (w : World) (g : Nat) (cs : Array Value) (d : TypeDesc)
    (hp : tmps.getD p undef = .pointer (some ⟨g, 0, none⟩)) (hg : BlkAt w g cs)
    (hu : P.underlying ty = some d) (hd : (match d with | .struct _ | .array _ _ => true | _ => false) = true) (hi : (P.info? ty).map (·.size) = some cs.size) :
    (results fn tmps).run P w = .ok (.agg cs) w := by
  obtain ⟨t, hg⟩ := hg
  have hp' : tmps[p]?.getD undef = .pointer (some ⟨g, 0, none⟩) := by simpa using hp
  simp [results, h, hp', asAddr, run_loadVar_row w g t ty cs _ d hg hu hd hi]
theorem law_start (s : ByteArray) (w : World) : Calls Try.prog 60 #[.string s] w fun r w' => r = .returned (.agg #[.int .i8 0, .string ⟨#[]⟩, .string s, .slice none 0 0, .string ⟨#[]⟩]) ∧ Below w.heap.size w w' := by
  have hb := ((Below.refl w.heap.size w).alloc (Nat.le_refl _) (.cells #[.int .i8 0, .string ⟨#[]⟩, .string s, .slice none 0 0, .string ⟨#[]⟩] 30))
  have bk := BlkAt.new w #[.int .i8 0, .string ⟨#[]⟩, .string s, .slice none 0 0, .string ⟨#[]⟩] 30
  go_enter Try.func60, Try.ntmps60
  go_wp2_with fail
  exact bodyPost_ret (results_cell1 rfl _ _ _ _ _ rfl bk Try.underlying30 rfl (by kernel_rfl)) rfl ⟨rfl, hb⟩
theorem law_text (s : ByteArray) (w : World) : Calls Try.prog 61 #[.string s] w fun r w' => r = .returned (.agg #[.int .i8 2, .string ⟨#[]⟩, .string ⟨#[]⟩, .slice none 0 0, .string s]) ∧ Below w.heap.size w w' := by
  have hb := ((Below.refl w.heap.size w).alloc (Nat.le_refl _) (.cells #[.int .i8 2, .string ⟨#[]⟩, .string ⟨#[]⟩, .slice none 0 0, .string s] 30))
  have bk := BlkAt.new w #[.int .i8 2, .string ⟨#[]⟩, .string ⟨#[]⟩, .slice none 0 0, .string s] 30
  go_enter Try.func61, Try.ntmps61
  go_wp2_with fail
  exact bodyPost_ret (results_cell1 rfl _ _ _ _ _ rfl bk Try.underlying30 rfl (by kernel_rfl)) rfl ⟨rfl, hb⟩
theorem law_end (s : ByteArray) (w : World) : Calls Try.prog 62 #[.string s] w fun r w' => r = .returned (.agg #[.int .i8 1, .string ⟨#[]⟩, .string s, .slice none 0 0, .string ⟨#[]⟩]) ∧ Below w.heap.size w w' := by
  have hb := ((Below.refl w.heap.size w).alloc (Nat.le_refl _) (.cells #[.int .i8 1, .string ⟨#[]⟩, .string s, .slice none 0 0, .string ⟨#[]⟩] 30))
  have bk := BlkAt.new w #[.int .i8 1, .string ⟨#[]⟩, .string s, .slice none 0 0, .string ⟨#[]⟩] 30
  go_enter Try.func62, Try.ntmps62
  go_wp2_with fail
  exact bodyPost_ret (results_cell1 rfl _ _ _ _ _ rfl bk Try.underlying30 rfl (by kernel_rfl)) rfl ⟨rfl, hb⟩
set_option maxRecDepth 100000 in
set_option maxHeartbeats 8000000 in
theorem law_wakes (w : World) : Calls Try.prog 17 #[] w fun r w' => r = .returned (.bool true) ∧ Below w.heap.size w w' := by
  have HS := Lib.hid law_start
  have HT := Lib.hid law_text
  have HE := Lib.hid law_end
  have hB0 := Below.refl w.heap.size w
  go_enter Try.func17, Try.ntmps17
  go_wp2_with first
    | (go_at_call 60; refine (HS.out _ _).mono ?_; rintro r w1 ⟨rfl, hb1⟩; replace hB0 := bt hB0 hb1; clear hb1)
    | (go_at_call 61; refine (HT.out _ _).mono ?_; rintro r w1 ⟨rfl, hb1⟩; replace hB0 := bt hB0 hb1; clear hb1)
    | (go_at_call 62; refine (HE.out _ _).mono ?_; rintro r w1 ⟨rfl, hb1⟩; replace hB0 := bt hB0 hb1; clear hb1)
  have hO := OwnE.lit (B := w1.heap.size) (base := w1.heap.size) (w := w1) (es := wkE) [.slice none 0 0, .slice none 0 0, .slice none 0 0, .slice none 0 0, .slice none 0 0, .slice none 0 0]
    #[.int .i8 0, .string ⟨#[]⟩, .string ⟨#[97]⟩, .slice none 0 0, .string ⟨#[]⟩, .int .i8 2, .string ⟨#[]⟩, .string ⟨#[]⟩, .slice none 0 0, .string ⟨#[120]⟩, .int .i8 0, .string ⟨#[]⟩, .string ⟨#[98]⟩, .slice none 0 0, .string ⟨#[]⟩,
      .int .i8 2, .string ⟨#[]⟩, .string ⟨#[]⟩, .slice none 0 0, .string ⟨#[121]⟩, .int .i8 1, .string ⟨#[]⟩, .string ⟨#[98]⟩, .slice none 0 0, .string ⟨#[]⟩, .int .i8 1, .string ⟨#[]⟩, .string ⟨#[97]⟩, .slice none 0 0, .string ⟨#[]⟩]
    rfl ⟨nilC _ _, nilC _ _, nilC _ _, nilC _ _, nilC _ _, nilC _ _, trivial⟩ (Nat.le_refl _) 6 rfl (by decide)
  have hb2 := hB0.alloc hB0.size (.cells #[.int .i8 0, .string ⟨#[]⟩, .string ⟨#[97]⟩, .slice none 0 0, .string ⟨#[]⟩, .int .i8 2, .string ⟨#[]⟩, .string ⟨#[]⟩, .slice none 0 0, .string ⟨#[120]⟩, .int .i8 0, .string ⟨#[]⟩, .string ⟨#[98]⟩, .slice none 0 0, .string ⟨#[]⟩,
      .int .i8 2, .string ⟨#[]⟩, .string ⟨#[]⟩, .slice none 0 0, .string ⟨#[121]⟩, .int .i8 1, .string ⟨#[]⟩, .string ⟨#[98]⟩, .slice none 0 0, .string ⟨#[]⟩, .int .i8 1, .string ⟨#[]⟩, .string ⟨#[97]⟩, .slice none 0 0, .string ⟨#[]⟩] 30)
  generalize w1.alloc (.cells #[.int .i8 0, .string ⟨#[]⟩, .string ⟨#[97]⟩, .slice none 0 0, .string ⟨#[]⟩, .int .i8 2, .string ⟨#[]⟩, .string ⟨#[]⟩, .slice none 0 0, .string ⟨#[120]⟩, .int .i8 0, .string ⟨#[]⟩, .string ⟨#[98]⟩, .slice none 0 0, .string ⟨#[]⟩,
      .int .i8 2, .string ⟨#[]⟩, .string ⟨#[]⟩, .slice none 0 0, .string ⟨#[121]⟩, .int .i8 1, .string ⟨#[]⟩, .string ⟨#[98]⟩, .slice none 0 0, .string ⟨#[]⟩, .int .i8 1, .string ⟨#[]⟩, .string ⟨#[97]⟩, .slice none 0 0, .string ⟨#[]⟩] 30) = W at hO hb2 ⊢
  have hcap := hO.cap
  have hR : EvsR W.heap.size W _ wkE := hO.reads (by obtain ⟨avs, h1, -⟩ := hO; exact Nat.le_of_lt (h1.lt _ rfl).2)
  generalize w1.heap.size = q at *
  have F1 : ∀ e ∈ wkE, e.at_.length ≤ 140737488351232 := by decide
  have F2 : (txsL wkE).length < 140737488355329 := by simp [txsL, wkE, nums]
  have HE1 := Lib.hid (fun (u : World) (hu : Below W.heap.size W u) => events_End W.heap.size wkE (.slice (some ⟨q, 0, none⟩) 6 6) 0 u (hR.below hu (Nat.le_refl _)) hu.size (by decide) F1)
  have HT1 := Lib.hid (fun (u : World) (hu : Below W.heap.size W u) => events_Text W.heap.size wkE (.slice (some ⟨q, 0, none⟩) 6 6) 0 u (hR.below hu (Nat.le_refl _)) hu.size (by decide) F1 F2 hcap)
  have HO1 := Lib.hid (fun (u : World) (hu : Below W.heap.size W u) => events_Own W.heap.size wkE (.slice (some ⟨q, 0, none⟩) 6 6) 0 u (hR.below hu (Nat.le_refl _)) hu.size (by decide) F1 F2 hcap)
  have HW1 := Lib.hid (fun (u : World) (hu : Below W.heap.size W u) => events_Whole W.heap.size wkE (.slice (some ⟨q, 0, none⟩) 6 6) u (hR.below hu (Nat.le_refl _)) hu.size (by decide) F1)
  have HD1 := Lib.hid (fun (u : World) (hu : Below W.heap.size W u) => events_Depth W.heap.size wkE (.slice (some ⟨q, 0, none⟩) 6 6) u (hR.below hu (Nat.le_refl _)) hu.size (by decide) F1)
  clear HS HT HE hO hcap hR F1 F2
  have hU := Below.refl W.heap.size W
  refine (HE1.out _ hU).mono ?_
  rintro r u1 ⟨hb, hr⟩
  rw [wk_at] at hr
  replace hU := hU.trans (hb.mono hU.size)
  rw [show r = _ from hr, wk_end]
  clear hr hb HE1
  go_wp2_with fail
  refine (HT1.out _ hU).mono ?_
  rintro r u1 ⟨rfl, hb⟩
  replace hU := hU.trans (hb.mono hU.size)
  rw [wk_text]
  go_wp2_with fail
  refine (HO1.out _ hU).mono ?_
  rintro r u1 ⟨rfl, hb⟩
  replace hU := hU.trans (hb.mono hU.size)
  rw [wk_own]
  go_wp2_with fail
  refine (HW1.out _ hU).mono ?_
  rintro r u1 ⟨rfl, hb⟩
  replace hU := hU.trans (hb.mono hU.size)
  rw [wk_grow]
  go_wp2_with fail
  refine (HD1.out _ hU).mono ?_
  rintro r u1 ⟨rfl, hb⟩
  replace hU := hU.trans (hb.mono hU.size)
  rw [wk_dep]
  go_wp2_with fail
  go_ret
  exact ⟨rfl, bt hb2 hU⟩
end Go.Proofs.Yteefopeclfojiaa
/- 
  Layer 16: the walk of events.Path.
 -/
namespace Go.Proofs.Yteefopeclfojiaa
open Go.RowKit
/-- the elements among the first k that end at p or behind. -/
def pathK (E : Nat → Option Nat) (p : Nat) : Nat → List Nat
  | 0 => []
  | k + 1 => pathK E p k ++ (match E k with
    | some j => if p ≤ j then [k] else []
    | none => [])
theorem pathK_len (E : Nat → Option Nat) (p : Nat) : ∀ k, (pathK E p k).length ≤ k
  | 0 => Nat.le_refl _
  | k + 1 => by
    have ih := pathK_len E p k
    rw [pathK, List.length_append]
    have : (match E k with
    | some j => if p ≤ j then [k] else []
    | none => []).length ≤ 1 := by
      split
      · split <;> simp
      · simp
    omega
/-- the names of the elements in which an element stands. -/
def pathP (es : List Evt) (i : Int) : List (ByteArray × ByteArray) := match atP es i with
  | none => []
  | some g => nmAt es (pathK (endO g) i.toNat (i.toNat + 1))
/-- a slice of names. -/
def NmsR (w' : World) (base : Nat) (v : Value) (l : List (ByteArray × ByteArray)) : Prop := w'.ownsRow base 24 2 v l.length (nmC l)
def PathS (w w' : World) (l : List (ByteArray × ByteArray)) (r : Ending) : Prop := ∃ v, r = .returned v ∧ NmsR w' w.heap.size v l ∧ Below w.heap.size w w'
set_option maxRecDepth 100000 in
set_option maxHeartbeats 8000000 in
theorem events_Path (B : Nat) (es : List Evt) (v : Value) (i : Int) (w : World) (hr : EvsR B w v es) (hB : B ≤ w.heap.size) (hn : es.length ≤ 999999) (hz : ∀ e ∈ es, e.at_.length ≤ 140737488351232) :
    Calls Try.prog 23 #[v, .int .i64 i] w fun r w' => PathS w w' (pathP es i) r := by
  have hg := events_at B es v i w hr hB (by omega) hz
  unfold pathP
  obtain ⟨R, hR⟩ : ∃ R, atP es i = R := ⟨_, rfl⟩
  rw [hR] at hg ⊢
  have H := Lib.hid hg
  clear hg
  obtain ⟨avs, ⟨a, cap, rfl, -⟩, -⟩ := id hr
  obtain ⟨n, hnn⟩ : ∃ n, es.length = n := ⟨_, rfl⟩
  have HN := Lib.hid hnn
  rw [hnn] at hr hn H ⊢
  clear hnn
  cases R with
  | none =>
    clear hr hz hR
    go_enter Try.func23, Try.ntmps23
    go_wp2_with fail
    refine (H.out).mono ?_
    rintro r w1 ⟨rfl, hb⟩
    go_wp2_with fail
    go_ret
    exact ⟨_, rfl, World.ownsRow_nil _ _ _ _, hb⟩
  | some g =>
    obtain ⟨-, hN, hcell, p, e, rfl, hE, hEn, hpe, he⟩ := atP_nest hR
    rw [HN.out] at he
    simp only [Int.toNat_natCast]
    have HST := Lib.hid (fun q => (hN.start q).2)
    have HC := Lib.hid hcell
    clear hR hN hcell hE hEn
    go_enter Try.func23, Try.ntmps23
    go_wp2_with fail
    refine (H.out).mono ?_
    rintro r w1 ⟨gp, mb, rfl, hb, ht, hm, h1, h2⟩
    have hp1 : p + 1 ≤ n := by omega
    go_wp2_with fail
    go_loopw [4, 16] (fun vs i wr => ∃ k : Nat, i = .int .i64 k ∧ k ≤ p + 1 ∧ NmsR wr w1.heap.size vs (nmAt es (pathK (endO g) p k)) ∧ Below w1.heap.size w1 wr) (fun _ i _ => p + 1 - (intOf i).toNat)
    case atStart => exact ⟨0, rfl, by omega, World.ownsRow_nil _ _ _ _, Below.refl _ _⟩
    case round =>
      obtain ⟨k, rfl, hk, hrow, hbl⟩ := hrel
      have T1 : _ = some (Value.map (some mb)) := (ht.below hbl ht.lt).cell 1 rfl
      have M1 := hm.low hbl hm.lt
      have hlk := ends_look2 M1 (k : Int)
      obtain ⟨va, vl, vc, rfl⟩ := own_slice hrow
      have hlen := pathK_len (endO g) p k
      by_cases hlt : k < p + 1
      · have hd := decide_eq_true (show (k : Int) < (p : Int) + 1 by omega)
        obtain ⟨x, hx⟩ : ∃ x, es[k]? = some x := ⟨_, List.getElem?_eq_getElem (by rw [HN.out]; omega)⟩
        cases hek : endO g k with
        | none =>
          obtain ⟨e1, e2⟩ := endV_none HC.out hek
          rw [e1, e2] at hlk
          have HRow := Lib.hid (show NmsR wr w1.heap.size (.slice va vl vc) (nmAt es (pathK (endO g) p (k + 1))) by
            rw [pathK, hek, List.append_nil]
            exact hrow)
          clear hr hz hx hrow e1 e2 M1 ht hm hek
          go_wp2_with fail
          exact ⟨⟨k + 1, by go_num, by omega, HRow.out, hbl⟩, by simp [intOf]; omega⟩
        | some j =>
          obtain ⟨e1, e2⟩ := endV_some HC.out hek
          rw [e1, e2] at hlk
          by_cases hpj : p ≤ j
          · have hd2 := decide_eq_true (show (p : Int) ≤ (j : Int) by omega)
            have hsn : nmAt es (pathK (endO g) p (k + 1)) = nmAt es (pathK (endO g) p k) ++ [x.n] := by
              rw [pathK, hek]
              simp only
              rw [if_pos hpj]
              exact nmAt_snoc es _ k x hx
            obtain ⟨b, off, cap', av, hv, hbB, c0, c1, c2, -⟩ := hr.get (hb.trans (hbl.mono hb.size)) hB k x hx
            rw [HN.out] at hv
            cases hv
            obtain ⟨v', w4, hrn, hro, hb4⟩ := app_nm wr w1.heap.size (.slice va vl vc) _ _ hrow x.n.1 x.n.2 (by rw [nmAt_len]; omega) hbl.size
            have HR := Lib.hid hrn
            have hkn : k < n := by omega
            have HRow := Lib.hid (show NmsR w4 w1.heap.size v' (nmAt es (pathK (endO g) p (k + 1))) by
              rw [hsn]
              unfold NmsR
              rw [nmC_snoc, List.length_append]
              exact hro)
            have hbw := hbl.trans hb4
            clear hr hz hx hrow e1 e2 M1 ht hm hek hsn hrn hro hb4
            go_wp2_with (at_builtin; refine wpList_append_run rfl _ _ _ _ rfl _ _ rfl rfl _ _ HR.out ?_)
            exact ⟨⟨k + 1, by go_num, by omega, HRow.out, hbw⟩, by simp [intOf]; omega⟩
          · have hd2 := decide_eq_false (show ¬ (p : Int) ≤ (j : Int) by omega)
            have HRow := Lib.hid (show NmsR wr w1.heap.size (.slice va vl vc) (nmAt es (pathK (endO g) p (k + 1))) by
              rw [pathK, hek]
              simp only
              rw [if_neg hpj, List.append_nil]
              exact hrow)
            clear hr hz hx hrow e1 e2 M1 ht hm hek
            go_wp2_with fail
            exact ⟨⟨k + 1, by go_num, by omega, HRow.out, hbl⟩, by simp [intOf]; omega⟩
      · have hd := decide_eq_false (show ¬ (k : Int) < (p : Int) + 1 by omega)
        have hkp : k = p + 1 := by omega
        subst hkp
        have HRow := Lib.hid hrow
        clear hr hz hrow M1 ht hm hlk
        go_wp2_with fail
        go_ret
        exact ⟨_, rfl, ownsRow_base HRow.out hb.size, hb.trans (hbl.mono hb.size)⟩
end Go.Proofs.Yteefopeclfojiaa
