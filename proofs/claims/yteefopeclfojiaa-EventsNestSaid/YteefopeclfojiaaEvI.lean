/-
  Layer 16: the walks of the document's Depth, Same.
-/
import Derived.Test.YteefopeclfojiaaEvM
import Derived.IntWalk
namespace Go.Proofs.Yteefopeclfojiaa
open Go.RowKit
/-- within a run that comes to g: so many are open, so deep it was. -/
structure RdI (es : List Evt) (gf : Gr) (j : Nat) (m d : Nat) (g : Gr) (os : List Nat) : Prop where
  run : some gf = (grun es j (es.drop j) g).bind (gfin es)
  op : g.op = cI os
  hm : os.length = m
  hd : g.deep = d
  le : m ≤ d
  lj : d ≤ j
theorem RdI.next {es : List Evt} {gf : Gr} {j m d : Nat} {g : Gr} {os : List Nat} (h : RdI es gf j m d g os) {x : Evt} (hx : es[j]? = some x) :
    (x.k = 0 ∧ ∃ g2 os2, RdI es gf (j + 1) (m + 1) (max d (m + 1)) g2 os2) ∨ (x.k = 1 ∧ 1 ≤ m ∧ ∃ g2 os2, RdI es gf (j + 1) (m - 1) d g2 os2) ∨ (x.k = 2 ∧ ∃ g2 os2, RdI es gf (j + 1) m d g2 os2) := by
  obtain ⟨h1, h2, h3, h4, h5, h6⟩ := h
  have hdr : es.drop j = x :: es.drop (j + 1) := by
    obtain ⟨e1, e2⟩ := List.getElem?_eq_some_iff.1 hx
    rw [← e2, List.drop_eq_getElem_cons e1]
  obtain ⟨op, ends, deep⟩ := g
  rw [hdr, grun, Option.bind_assoc] at h1
  obtain ⟨g2, hg, hr⟩ := Option.bind_eq_some_iff.1 h1.symm
  obtain ⟨-, -, hc⟩ := gstep_iff.1 hg
  simp only at h2 h4
  subst h2
  subst h4
  rcases hc with ⟨hk, rfl⟩ | ⟨hk, ht, rfl⟩ | ⟨hk, t, ht, hnm, rfl⟩
  · exact .inl ⟨hk, _, os ++ [j], hr.symm, by rw [cI_append]; rfl, by rw [List.length_append, h3]; rfl, by show max deep ((cI os).length + 1) = _; rw [cI_len, h3], by omega, by omega⟩
  · exact .inr (.inr ⟨hk, _, os, hr.symm, rfl, h3, rfl, h5, by omega⟩)
  · obtain ⟨ini, u, hu, rfl⟩ := last_cI ht
    have h7 : m = ini.length + 1 := by rw [← h3, hu]; simp
    exact .inr (.inl ⟨hk, by omega, _, ini, hr.symm, by rw [hu, cI_append]; simp [cI], by omega, rfl, by omega, by omega⟩)
theorem RdI.last {es : List Evt} {gf : Gr} {j m d : Nat} {g : Gr} {os : List Nat} (h : RdI es gf j m d g os) (hj : es.length ≤ j) : gf.deep = d := by
  obtain ⟨h1, h2, h3, h4, h5, h6⟩ := h
  rw [List.drop_eq_nil_of_le hj] at h1
  have h7 : some gf = gfin es g := h1
  unfold gfin at h7
  split at h7
  · cases h7
  · injection h7 with h7
    rw [h7, h4]
set_option maxRecDepth 100000 in
set_option maxHeartbeats 8000000 in
theorem ref16_Depth (B : Nat) (es : List Evt) (v : Value) (w : World) (hr : EvsR B w v es) (hB : B ≤ w.heap.size) (hn : es.length ≤ 1000000) (hz : ∀ e ∈ es, e.at_.length ≤ 140737488351232) :
    Calls Try.prog 25 #[v] w fun r w' => r = .returned (.int .i64 (depP es)) ∧ Below w.heap.size w w' := by
  have HW := Lib.hid (ref16_Whole B es v w hr hB hn hz)
  obtain ⟨avs, ⟨a, cap, rfl, -⟩, -⟩ := id hr
  obtain ⟨n, hnn⟩ : ∃ n, es.length = n := ⟨_, rfl⟩
  have HN := Lib.hid hnn
  rw [hnn] at hr hn HW ⊢
  clear hnn
  unfold depP
  obtain ⟨R, hR⟩ : ∃ R, growP es = R := ⟨_, rfl⟩
  rw [hR] at HW ⊢
  cases R with
  | none =>
    clear hr hz hR
    go_enter Try.func25, Try.ntmps25
    go_wp2_with fail
    refine (HW.out).mono ?_
    rintro r w1 ⟨rfl, hb⟩
    go_wp2_with fail
    go_ret
    exact ⟨rfl, hb⟩
  | some gf =>
    have I0 : RdI es gf 0 0 0 ⟨[], [], 0⟩ [] := ⟨hR.symm, rfl, rfl, rfl, Nat.le_refl _, Nat.le_refl _⟩
    clear hR
    go_enter Try.func25, Try.ntmps25
    go_wp2_with fail
    refine (HW.out).mono ?_
    rintro r w1 ⟨rfl, hb⟩
    go_wp2_with fail
    go_loopw [3, 4, 5] (fun m d i wr => ∃ (j M D : Nat) (g : Gr) (os : List Nat), i = .int .i64 j ∧ m = .int .i64 M ∧ d = .int .i64 D ∧ j ≤ n ∧ RdI es gf j M D g os ∧ wr = w1) (fun _ _ i _ => n - (intOf i).toNat)
    case atStart => exact ⟨0, 0, 0, _, [], rfl, rfl, rfl, by omega, I0, rfl⟩
    case round =>
      clear I0
      obtain ⟨j, M, D, g, os, rfl, rfl, rfl, hj, I, rfl⟩ := hrel
      have hle := I.le
      have hlj := I.lj
      by_cases hlt : j < n
      · have hd := decide_eq_true (show (j : Int) < (n : Int) by omega)
        obtain ⟨x, hx⟩ : ∃ x, es[j]? = some x := ⟨_, List.getElem?_eq_getElem (by rw [HN.out]; exact hlt)⟩
        have hnx := I.next hx
        obtain ⟨b, off, cap', av, hv, hbB, c0, -⟩ := hr.get hb hB j x hx
        rw [HN.out] at hv
        cases hv
        rcases hnx with ⟨hk, g2, os2, I2⟩ | ⟨hk, hM, g2, os2, I2⟩ | ⟨hk, g2, os2, I2⟩
        · rw [hk] at c0
          obtain ⟨D2, hD2⟩ : ∃ D2, max D (M + 1) = D2 := ⟨_, rfl⟩
          rw [hD2] at I2
          have hmx : (if (D : Int) < (M : Int) + 1 then (M : Int) + 1 else (D : Int)) = (D2 : Int) := by split <;> omega
          have HI := Lib.hid I2
          clear hr hx hz I hk I2 hD2
          go_wp2_with fail
          exact ⟨⟨j + 1, M + 1, D2, g2, os2, by go_num, by go_num, rfl, by omega, HI.out, trivial⟩, by simp [intOf]; omega⟩
        · rw [hk] at c0
          have hmx : (if (D : Int) < (M : Int) - 1 then (M : Int) - 1 else (D : Int)) = (D : Int) := by split <;> omega
          have HI := Lib.hid I2
          clear hr hx hz I hk I2
          go_wp2_with fail
          exact ⟨⟨j + 1, M - 1, D, g2, os2, by go_num, by congr 1; omega, rfl, by omega, HI.out, trivial⟩, by simp [intOf]; omega⟩
        · rw [hk] at c0
          have hmx : (if (D : Int) < (M : Int) then (M : Int) else (D : Int)) = (D : Int) := by split <;> omega
          have HI := Lib.hid I2
          clear hr hx hz I hk I2
          go_wp2_with fail
          exact ⟨⟨j + 1, M, D, g2, os2, by go_num, rfl, rfl, by omega, HI.out, trivial⟩, by simp [intOf]; omega⟩
      · have hd := decide_eq_false (show ¬ (j : Int) < (n : Int) by omega)
        have hD := Lib.hid (I.last (by rw [HN.out]; omega))
        clear hr hz I
        go_wp2_with fail
        go_ret
        exact ⟨ret_int (by rw [hD.out]), hb⟩
set_option maxRecDepth 100000 in
set_option maxHeartbeats 8000000 in
theorem ref16_Same (B : Nat) (es ms : List Evt) (v u : Value) (w : World) (hr : EvsR B w v es) (hm : EvsR B w u ms) (hB : B ≤ w.heap.size) (hn : es.length ≤ 1000000) (hz : ∀ e ∈ es, e.at_.length ≤ 1000000) :
    Calls Try.prog 27 #[v, u] w fun r w' => r = .returned (.bool (sameP es ms)) ∧ Below w.heap.size w w' := by
  obtain ⟨avs, ⟨a, ca, rfl, -⟩, -⟩ := id hr
  obtain ⟨bvs, ⟨c, cc, rfl, -⟩, -⟩ := id hm
  obtain ⟨n, hnn⟩ : ∃ n, es.length = n := ⟨_, rfl⟩
  by_cases hle : es.length = ms.length
  · have HN := Lib.hid hnn
    have HM := Lib.hid (hle.symm.trans hnn)
    rw [hnn] at hr hn
    rw [HM.out] at hm
    rw [hnn, HM.out]
    clear hnn hle
    have hnn2 : ((n : Int) != (n : Int)) = false := by simp
    go_enter Try.func27, Try.ntmps27
    go_wp2_with fail
    go_loopw [5] (fun i wr => ∃ k m : Nat, i = .int .i64 k ∧ k ≤ n ∧ Hid (es.take k = ms.take k) ∧ wr = w.drewN m) (fun i _ => n - (intOf i).toNat)
    case atStart => exact ⟨0, 0, rfl, by omega, Lib.hid rfl, rfl⟩
    case round =>
      obtain ⟨k, m, rfl, hk, HS, rfl⟩ := hrel
      have hb0 := Below.refl w.heap.size w
      by_cases hlt : k < n
      · obtain ⟨x, hx⟩ : ∃ x, es[k]? = some x := ⟨_, List.getElem?_eq_getElem (by rw [HN.out]; exact hlt)⟩
        obtain ⟨y, hy⟩ : ∃ y, ms[k]? = some y := ⟨_, List.getElem?_eq_getElem (by rw [HM.out]; exact hlt)⟩
        obtain ⟨b1, o1, c1, av, hv1, -, p0, p1, p2, p3, p4, hav⟩ := hr.get hb0 hB k x hx
        rw [HN.out] at hv1
        cases hv1
        have hxz := hz x (List.mem_of_getElem? hx)
        have hd := decide_eq_true (show (k : Int) < (n : Int) by omega)
        obtain ⟨aa, ac, rfl, -⟩ := id hav
        obtain ⟨b2, o2, c2, bv, hv2, -, q0, q1, q2, q3, q4, hbv⟩ := hm.get hb0 hB k y hy
        rw [HM.out] at hv2
        cases hv2
        obtain ⟨ba, bc, rfl, -⟩ := id hbv
        have hdf : x ≠ y → sameP es ms = false := fun h => sameP_ne fun e => by
          rw [e, hy] at hx
          injection hx with h1
          exact h h1.symm
        have hnx : x = y → es.take (k + 1) = ms.take (k + 1) := fun h => by rw [List.take_add_one, List.take_add_one, HS.out, hx, hy, h]
        have HDF := Lib.hid hdf
        have HNX := Lib.hid hnx
        obtain ⟨xk, ⟨x1, x2⟩, xa, xt⟩ := x
        obtain ⟨yk, ⟨y1, y2⟩, ya, yt⟩ := y
        simp only at p0 p1 p2 p3 p4 q0 q1 q2 q3 q4 hav hbv hxz
        have HR := Lib.hid (And.intro hr hm)
        clear hr hm hx hy hz hdf hnx
        have hcs : ((xk != yk) = true) ∨ ((xk != yk) = false ∧ (x1.toList == y1.toList) = false) ∨ ((xk != yk) = false ∧ (x1.toList == y1.toList) = true ∧ (x2.toList == y2.toList) = false) ∨ ((xk != yk) = false ∧ (x1.toList == y1.toList) = true ∧ (x2.toList == y2.toList) = true ∧ (xt.toList != yt.toList) = true) ∨
            ((xk != yk) = false ∧ (x1.toList == y1.toList) = true ∧ (x2.toList == y2.toList) = true ∧ (xt.toList != yt.toList) = false ∧ ((xa.length : Int) != (ya.length : Int)) = true) ∨ (xk = yk ∧ x1 = y1 ∧ x2 = y2 ∧ xt = yt ∧ xa.length = ya.length) := by
          by_cases h0 : xk = yk
          · by_cases h1 : x1 = y1
            · by_cases h2 : x2 = y2
              · by_cases h3 : xt = yt
                · by_cases h4 : xa.length = ya.length
                  · exact .inr (.inr (.inr (.inr (.inr ⟨h0, h1, h2, h3, h4⟩))))
                  · exact .inr (.inr (.inr (.inr (.inl ⟨by simp [h0], by rw [h1]; simp, by rw [h2]; simp, by rw [h3]; simp, by simp; omega⟩))))
                · exact .inr (.inr (.inr (.inl ⟨by simp [h0], by rw [h1]; simp, by rw [h2]; simp, by have := toL_ne h3; unfold bne; rw [this]; rfl⟩)))
              · exact .inr (.inr (.inl ⟨by simp [h0], by rw [h1]; simp, toL_ne h2⟩))
            · exact .inr (.inl ⟨by simp [h0], toL_ne h1⟩)
          · exact .inl (by simpa using h0)
        have hbd := fun j => below_dn (Below.refl w.heap.size w) j
        rcases hcs with g0 | ⟨g0, g1⟩ | ⟨g0, g1, g2⟩ | ⟨g0, g1, g2, g3⟩ | ⟨g0, g1, g2, g3, g4⟩ | ⟨rfl, rfl, rfl, rfl, h4⟩
        · have HD := Lib.hid (HDF.out fun h => by injection h with h1; rw [h1] at g0; simp at g0)
          clear HDF HNX HR
          go_wp2_with fail
          go_quiet (fail)
          go_wp2_with fail
          go_ret
          exact ⟨ret_bool HD.out.symm, below_dn (hbd _) _⟩
        · have HD := Lib.hid (HDF.out fun h => by injection h with h1 h2; injection h2 with h2; rw [h2] at g1; simp at g1)
          clear HDF HNX HR
          go_wp2_with fail
          go_quiet (fail)
          go_wp2_with fail
          go_ret
          exact ⟨ret_bool HD.out.symm, below_dn (hbd _) _⟩
        · have HD := Lib.hid (HDF.out fun h => by injection h with h1 h2; injection h2 with h2 h3; rw [h3] at g2; simp at g2)
          clear HDF HNX HR
          go_wp2_with fail
          go_quiet (fail)
          go_wp2_with fail
          go_ret
          exact ⟨ret_bool HD.out.symm, below_dn (hbd _) _⟩
        · have HD := Lib.hid (HDF.out fun h => by injection h with h1 h2 h3 h4; rw [h4] at g3; simp at g3)
          have g3b : (xt.toList == yt.toList) = false := by unfold bne at g3; simpa using g3
          clear HDF HNX HR
          go_wp2_with fail
          go_quiet (fail)
          go_wp2_with fail
          go_ret
          exact ⟨ret_bool HD.out.symm, below_dn (hbd _) _⟩
        · have HD := Lib.hid (HDF.out fun h => by injection h with h1 h2 h3 h4; rw [h3] at g4; simp at g4)
          have g3b : (xt.toList == yt.toList) = true := by unfold bne at g3; simpa using g3
          clear HDF HNX HR
          go_wp2_with fail
          go_quiet (fail)
          go_wp2_with fail
          go_ret
          exact ⟨ret_bool HD.out.symm, below_dn (hbd _) _⟩
        · have t0 : (xk != xk) = false := by simp
          have t1 := toL_self x1
          have t2 := toL_self x2
          have t3 : (xt.toList != xt.toList) = false := by simp
          obtain ⟨r, hr4⟩ : ∃ r, xa.length = r := ⟨_, rfl⟩
          have HX := Lib.hid hr4
          have HY := Lib.hid (h4.symm.trans hr4)
          rw [hr4] at hav p3 hxz
          rw [HY.out] at hbv q3
          have t4 : ((r : Int) != (r : Int)) = false := by simp
          clear hr4 h4
          go_wp2_with fail
          go_quiet (fail)
          go_wp2_with fail
          go_loopw [6] (fun i wi => ∃ c m2 : Nat, i = .int .i64 c ∧ c ≤ r ∧ Hid (xa.take c = ya.take c) ∧ wi = w.drewN m2) (fun i _ => r - (intOf i).toNat)
          case atStart => exact ⟨0, m + nq, rfl, by omega, Lib.hid rfl, by simp [World.drewN, Nat.add_assoc]⟩
          case round =>
            obtain ⟨c, m2, rfl, hc, HC, rfl⟩ := hrel
            by_cases hlc : c < r
            · obtain ⟨x, hx⟩ : ∃ x, xa[c]? = some x := ⟨_, List.getElem?_eq_getElem (by rw [HX.out]; exact hlc)⟩
              obtain ⟨y, hy⟩ : ∃ y, ya[c]? = some y := ⟨_, List.getElem?_eq_getElem (by rw [HY.out]; exact hlc)⟩
              obtain ⟨b3, o3, c3, hv3, r0, r1, r2⟩ := hav.attr hb0 hB c x hx
              obtain ⟨b4, o4, c4, hv4, s0, s1, s2⟩ := hbv.attr hb0 hB c y hy
              cases hv3
              cases hv4
              have hdc := decide_eq_true (show (c : Int) < (r : Int) by omega)
              by_cases hxy : x = y
              · subst hxy
                have HC2 := Lib.hid (show xa.take (c + 1) = ya.take (c + 1) by rw [List.take_add_one, List.take_add_one, HC.out, hx, hy])
                have u1 := toL_self x.1.1
                have u2 := toL_self x.1.2
                have u3 := toL_self x.2
                clear hav hbv hx hy HC HDF HNX HR
                go_wp2_with fail
                go_quiet (fail)
                go_wp2_with fail
                exact ⟨⟨c + 1, m2 + nq, by go_num, by omega, HC2, by simp [World.drewN]⟩, by simp [intOf]; omega⟩
              · have HD := Lib.hid (HDF.out fun h => by
                  injection h with h1 h2 h3 h4
                  rw [h3, hy] at hx
                  injection hx with h5
                  exact hxy h5.symm)
                have hne : (x.1.1.toList == y.1.1.toList) = false ∨ ((x.1.1.toList == y.1.1.toList) = true ∧ (x.1.2.toList == y.1.2.toList) = false) ∨ ((x.1.1.toList == y.1.1.toList) = true ∧ (x.1.2.toList == y.1.2.toList) = true ∧ (x.2.toList == y.2.toList) = false) := by
                  by_cases h1 : x.1.1 = y.1.1
                  · by_cases h2 : x.1.2 = y.1.2
                    · refine .inr (.inr ⟨by rw [h1]; simp, by rw [h2]; simp, toL_ne fun h3 => hxy (Prod.ext (Prod.ext h1 h2) h3)⟩)
                    · exact .inr (.inl ⟨by rw [h1]; simp, toL_ne h2⟩)
                  · exact .inl (toL_ne h1)
                clear hav hbv hx hy HC HDF HNX HR hxy
                rcases hne with g1 | ⟨g1, g2⟩ | ⟨g1, g2, g3⟩
                all_goals
                  go_wp2_with fail
                  go_quiet (fail)
                  go_wp2_with fail
                  go_ret
                  exact ⟨ret_bool HD.out.symm, below_dn (hbd _) _⟩
            · have hdc := decide_eq_false (show ¬ (c : Int) < (r : Int) by omega)
              have hxy : xa = ya := by
                have hs := HC.out
                rw [List.take_of_length_le (by rw [HX.out]; omega), List.take_of_length_le (by rw [HY.out]; omega)] at hs
                exact hs
              have HN2 := Lib.hid (HNX.out (by rw [hxy]))
              clear hav hbv HC HDF HNX HR hxy
              go_wp2_with fail
              exact ⟨⟨k + 1, m2, by go_num, by omega, HN2, rfl⟩, by simp [intOf]; omega⟩
      · have hd := decide_eq_false (show ¬ (k : Int) < (n : Int) by omega)
        have hlm : es = ms := by
          have hs := HS.out
          rw [List.take_of_length_le (by rw [HN.out]; omega), List.take_of_length_le (by rw [HM.out]; omega)] at hs
          exact hs
        have HD := Lib.hid (sameP_iff.2 hlm)
        clear hr hm hlm
        go_wp2_with fail
        go_ret
        exact ⟨ret_bool HD.out.symm, below_dn (Below.refl _ _) _⟩
  · have HD := Lib.hid (sameP_ne (show ¬ es = ms from fun e => hle (by rw [e])))
    have hd : ¬ ((es.length : Int) = (ms.length : Int)) := by omega
    clear hr hm hnn
    go_enter Try.func27, Try.ntmps27
    go_wp2_with fail
    go_ret
    exact ⟨ret_bool HD.out.symm, Below.refl _ _⟩
end Go.Proofs.Yteefopeclfojiaa
