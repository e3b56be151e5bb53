/-
  The walk of layer 7's statement DeclareMade.
-/
import Derived.Test.YtaheooedcjjckaaDeM
namespace Go.Proofs.Ytaheooedcjjckaa
open Go.RowKit
theorem Reads.strs {B : Nat} {w : World} {v : Value} {ss : List ByteArray} (h : Reads B w v (ss.map Value.string)) :
    ∃ a cap, v = .slice a ss.length cap ∧ ss.length ≤ maxLen ∧ ∀ i (_ : i < ss.length), ∃ b off, a = some ⟨b, off, none⟩ ∧ b < B ∧ w.cell? ⟨b, off + i, none⟩ = some (.string ss[i]) := by
  obtain ⟨hl, a, cap, rfl, h⟩ := h
  rw [List.length_map] at hl
  refine ⟨a, cap, by rw [List.length_map], hl, fun i hi => ?_⟩
  rcases h with h | ⟨b, off, rfl, hB, hc⟩
  · rw [List.map_eq_nil_iff] at h; subst h; simp at hi
  · exact ⟨b, off, rfl, hB, by rw [hc i (by rw [List.length_map]; exact hi), List.getElem_map]⟩
theorem madeD_snoc : ∀ (ps : List (List Int × List Int)) (p : List Int × List Int), madeD (ps ++ [p]) = madeD ps ++ 32 :: (p.1 ++ ([61, 34] ++ (p.2 ++ [34])))
  | [], p => rfl
  | q :: r, p => by
    rw [List.cons_append, madeD, madeD_snoc r p, madeD]
    simp
set_option maxRecDepth 100000 in
set_option maxHeartbeats 4000000 in
theorem law_DeclareMade (va : Value) (ns : List ByteArray) (vb : Value) (vs : List ByteArray) (d : ByteArray) (w : World) (m : Int) (hm : MaxAt w m) (ha : Reads w.heap.size w va (ns.map Value.string)) (hv : Reads w.heap.size w vb (vs.map Value.string)) :
    Calls Try.prog 5 #[va, vb, .string d] w fun e w' => e = .returned (.bool true) ∧ Below w.heap.size w w' := by
  have HW := Lib.hid (fun (u : World) (h : MaxAt u m) => law07_wakes u m h)
  have HM := Lib.hid hm
  clear hm
  have hB := Below.refl w.heap.size w
  obtain ⟨a1, cap1, rfl, hnm, hN⟩ := ha.strs
  obtain ⟨a2, cap2, rfl, hvm, hV⟩ := hv.strs
  clear ha hv
  by_cases h4 : 4 < ns.length
  · clear hN hV
    go_enter Try.func5, Try.ntmps5
    go_wp2_with (go_at_call 7; refine (HW.out _ (HM.out.below hB)).mono ?_; rintro e w' ⟨rfl, hb1⟩; replace hB := bt hB hb1)
    go_ret
    exact ⟨rfl, hB⟩
  by_cases hvl : vs.length < ns.length
  · clear hN hV
    go_enter Try.func5, Try.ntmps5
    go_wp2_with (go_at_call 7; refine (HW.out _ (HM.out.below hB)).mono ?_; rintro e w' ⟨rfl, hb1⟩; replace hB := bt hB hb1)
    go_ret
    exact ⟨rfl, hB⟩
  by_cases hdl : 2000 < d.size
  · clear hN hV
    go_enter Try.func5, Try.ntmps5
    go_wp2_with (go_at_call 7; refine (HW.out _ (HM.out.below hB)).mono ?_; rintro e w' ⟨rfl, hb1⟩; replace hB := bt hB hb1)
    go_ret
    exact ⟨rfl, hB⟩
  have HN := Lib.hid hN
  have HV := Lib.hid hV
  clear hN hV
  go_enter Try.func5, Try.ntmps5
  go_wp2_with fail
  go_loopw [7, 8, 33] (fun bv v i wr => ∃ (k : Nat) (B : ByteArray) (ps : List (List Int × List Int)), bv = .string B ∧ i = .int .i64 k ∧ k ≤ ns.length ∧ ps.length = k ∧ B.size ≤ 5 + 45 * k ∧ wr.ownsRow w.heap.size 38 2 v ps.length (dcC ps) ∧ Below w.heap.size w wr ∧
    Hid (nums B = [60, 63, 120, 109, 108] ++ madeD ps ∧ ∀ p ∈ ps, goodD p)) (fun _ _ i _ => ns.length - (intOf i).toNat)
  case atStart => exact ⟨0, _, [], rfl, rfl, by omega, rfl, by decide, World.ownsRow_nil _ _ _ _, Below.refl _ _, Lib.hid ⟨rfl, fun p hp => by cases hp⟩⟩
  case round =>
    obtain ⟨k, B, ps, rfl, rfl, hk, hpl, hBs, hrow, hbw, HQ⟩ := hrel
    by_cases hlt : k < ns.length
    · have hltv : k < vs.length := by omega
      obtain ⟨b1, o1, rfl, hb1l, hc1⟩ := HN.out k hlt
      obtain ⟨b2, o2, rfl, hb2l, hc2⟩ := HV.out k hltv
      obtain ⟨n, hn⟩ : ∃ n, ns[k] = n := ⟨_, rfl⟩
      obtain ⟨v, hv⟩ : ∃ n, vs[k] = n := ⟨_, rfl⟩
      rw [hn] at hc1
      rw [hv] at hc2
      have c1 := (hbw.cell (p := ⟨b1, o1 + k, none⟩) hb1l).trans hc1
      have c2 := (hbw.cell (p := ⟨b2, o2 + k, none⟩) hb2l).trans hc2
      clear hn hv
      by_cases hn0 : n.size = 0
      · have hz : ((n.size : Int) == 0) = true := by simpa using hn0
        go_wp2_with fail
        refine (HW.out _ (HM.out.below hbw)).mono ?_
        rintro e w9 ⟨rfl, hb9⟩
        go_wp2
        go_ret
        exact ⟨rfl, bt hbw hb9⟩
      have hz : ((n.size : Int) == 0) = false := by simpa using hn0
      by_cases hn20 : 20 < n.size
      · go_wp2_with fail
        refine (HW.out _ (HM.out.below hbw)).mono ?_
        rintro e w9 ⟨rfl, hb9⟩
        go_wp2
        go_ret
        exact ⟨rfl, bt hbw hb9⟩
      by_cases hv20 : 20 < v.size
      · go_wp2_with fail
        refine (HW.out _ (HM.out.below hbw)).mono ?_
        rintro e w9 ⟨rfl, hb9⟩
        go_wp2
        go_ret
        exact ⟨rfl, bt hbw hb9⟩
      have hcv := Lib.run_convert_string_bytes (P := Try.prog) wr 9 37 5 n Try.underlying9 Try.underlying37 Try.underlying5
      obtain ⟨cap, hcap⟩ : ∃ cap, grownCap wr n.size 0 5 = cap := ⟨_, rfl⟩
      have hlr := LowRow.made wr 5 n
      have hbl := bytes_below wr 5 n
      obtain ⟨w1, hw1⟩ : ∃ w1, Lib.bytesWorld wr 5 n = w1 := ⟨_, rfl⟩
      rw [hcap, hw1] at hcv
      rw [hw1] at hlr hbl
      clear hw1 hcap
      have hbw1 := bt hbw hbl
      have hrow1 := own_below hrow hbl (Nat.le_refl _)
      obtain ⟨p, hp⟩ : ∃ p, wr.heap.size = p := ⟨_, rfl⟩
      rw [hp] at hcv hlr hbl
      clear hp
      have c2 := (hbw1.cell (p := ⟨b2, o2 + k, none⟩) hb2l).trans hc2
      go_wp2_with fail
      go_loop [58] (fun i => ∃ j : Nat, i = .int .i64 j ∧ j ≤ n.size ∧ Hid (∀ x ∈ (nums n).take j, smN x = true)) (fun i => n.size - (intOf i).toNat)
      case atStart => exact ⟨0, rfl, by omega, Lib.hid (by simp)⟩
      case round =>
        obtain ⟨j, rfl, hj, HA⟩ := hrel
        by_cases hjn : j < n.size
        · have hca := hlr.cellAt j (by rw [nums_length]; exact hjn)
          obtain ⟨c, hc⟩ : ∃ c : Int, (n[j].toNat : Int) = c := ⟨_, rfl⟩
          rw [nums_at n j hjn, hc] at hca
          have hat : (nums n)[j]? = some c := by rw [List.getElem?_eq_getElem (by rw [nums_length]; exact hjn), nums_at n j hjn, hc]
          by_cases hsm : 97 ≤ c ∧ c ≤ 122
          · have HA2 := Lib.hid (show ∀ x ∈ (nums n).take (j + 1), smN x = true by
              intro x hx
              rw [List.take_add_one, hat] at hx
              simp only [Option.toList_some, List.mem_append, List.mem_singleton] at hx
              rcases hx with hx | rfl
              · exact HA.out x hx
              · exact decide_eq_true hsm)
            have d1 : decide (c < 97) = false := decide_eq_false (by omega)
            have d2 : decide (122 < c) = false := decide_eq_false (by omega)
            have d3 : ¬ c < 97 := by omega
            have d4 : ¬ 122 < c := by omega
            clear hc hat hsm
            go_wp2_with fail
            exact ⟨⟨j + 1, by go_num, by omega, HA2⟩, by simp [intOf]; omega⟩
          · have hsm2 : c < 97 ∨ (¬ c < 97 ∧ 122 < c) := by omega
            clear hc hat hsm
            rcases hsm2 with d1 | ⟨d1, d2⟩
            all_goals
              go_wp2_with fail
              refine (HW.out _ (HM.out.below hbw1)).mono ?_
              rintro e w9 ⟨rfl, hb9⟩
              go_wp2
              go_ret
              exact ⟨rfl, bt hbw1 hb9⟩
        · have HALL := Lib.hid (show ∀ x ∈ nums n, smN x = true by
            have := HA.out
            rwa [List.take_of_length_le (by rw [nums_length]; omega)] at this)
          have hcv2 := Lib.run_convert_string_bytes (P := Try.prog) w1 9 37 5 v Try.underlying9 Try.underlying37 Try.underlying5
          obtain ⟨cap3, hcap3⟩ : ∃ cap, grownCap w1 v.size 0 5 = cap := ⟨_, rfl⟩
          have hlr2 := LowRow.made w1 5 v
          have hbl2 := bytes_below w1 5 v
          obtain ⟨w2, hw2⟩ : ∃ w2, Lib.bytesWorld w1 5 v = w2 := ⟨_, rfl⟩
          rw [hcap3, hw2] at hcv2
          rw [hw2] at hlr2 hbl2
          clear hw2 hcap3
          have hbw2 := bt hbw1 hbl2
          have hrow2 := own_below hrow1 hbl2 (Nat.le_refl _)
          obtain ⟨p2, hp2⟩ : ∃ p, w1.heap.size = p := ⟨_, rfl⟩
          rw [hp2] at hcv2 hlr2 hbl2
          clear hp2 hcv
          have c3 := (hbw2.cell (p := ⟨b2, o2 + k, none⟩) hb2l).trans hc2
          go_wp2_with fail
          go_loop [76] (fun i => ∃ j : Nat, i = .int .i64 j ∧ j ≤ v.size ∧ Hid (∀ x ∈ (nums v).take j, x ≠ 34 ∧ x ≠ 63)) (fun i => v.size - (intOf i).toNat)
          case atStart => exact ⟨0, rfl, by omega, Lib.hid (by simp)⟩
          case round =>
            obtain ⟨j, rfl, hj, HA⟩ := hrel
            by_cases hjn : j < v.size
            · have hca := hlr2.cellAt j (by rw [nums_length]; exact hjn)
              obtain ⟨c, hc⟩ : ∃ c : Int, (v[j].toNat : Int) = c := ⟨_, rfl⟩
              rw [nums_at v j hjn, hc] at hca
              have hat : (nums v)[j]? = some c := by rw [List.getElem?_eq_getElem (by rw [nums_length]; exact hjn), nums_at v j hjn, hc]
              by_cases hsm : c ≠ 34 ∧ c ≠ 63
              · have HA2 := Lib.hid (show ∀ x ∈ (nums v).take (j + 1), x ≠ 34 ∧ x ≠ 63 by
                  intro x hx
                  rw [List.take_add_one, hat] at hx
                  simp only [Option.toList_some, List.mem_append, List.mem_singleton] at hx
                  rcases hx with hx | rfl
                  · exact HA.out x hx
                  · exact hsm)
                have d1 : (c == 34) = false := by simpa using hsm.1
                have d2 : (c == 63) = false := by simpa using hsm.2
                clear hc hat hsm
                go_wp2_with fail
                exact ⟨⟨j + 1, by go_num, by omega, HA2⟩, by simp [intOf]; omega⟩
              · have hsm2 : (c == 34) = true ∨ ((c == 34) = false ∧ (c == 63) = true) := by
                  by_cases e : c = 34
                  · exact .inl (by simpa using e)
                  · exact .inr ⟨by simpa using e, by simpa using Classical.byContradiction fun e2 => hsm ⟨e, e2⟩⟩
                clear hc hat hsm
                rcases hsm2 with d1 | ⟨d1, d2⟩
                all_goals
                  go_wp2_with fail
                  refine (HW.out _ (HM.out.below hbw2)).mono ?_
                  rintro e w9 ⟨rfl, hb9⟩
                  go_wp2
                  go_ret
                  exact ⟨rfl, bt hbw2 hb9⟩
            · have HALV := Lib.hid (show ∀ x ∈ nums v, x ≠ 34 ∧ x ≠ 63 by
                have := HA.out
                rwa [List.take_of_length_le (by rw [nums_length]; omega)] at this)
              obtain ⟨X1, hX1⟩ : ∃ X, (⟨#[32]⟩ : ByteArray) ++ n = X := ⟨_, rfl⟩
              obtain ⟨X2, hX2⟩ : ∃ X, X1 ++ (⟨#[61, 34]⟩ : ByteArray) = X := ⟨_, rfl⟩
              obtain ⟨X3, hX3⟩ : ∃ X, X2 ++ v = X := ⟨_, rfl⟩
              obtain ⟨X4, hX4⟩ : ∃ X, X3 ++ (⟨#[34]⟩ : ByteArray) = X := ⟨_, rfl⟩
              obtain ⟨X5, hX5⟩ : ∃ X, B ++ X4 = X := ⟨_, rfl⟩
              have z1 : X1.size = 1 + n.size := by rw [← hX1, ByteArray.size_append]; rfl
              have z2 : X2.size = X1.size + 2 := by rw [← hX2, ByteArray.size_append]; rfl
              have z3 : X3.size = X2.size + v.size := by rw [← hX3, ByteArray.size_append]
              have z4 : X4.size = X3.size + 1 := by rw [← hX4, ByteArray.size_append]; rfl
              have z5 : X5.size = B.size + X4.size := by rw [← hX5, ByteArray.size_append]
              have g1 : (⟨#[32]⟩ : ByteArray).size + n.size ≤ 50000000 := by rw [show (⟨#[32]⟩ : ByteArray).size = 1 from rfl]; omega
              have g2 : X1.size + (⟨#[61, 34]⟩ : ByteArray).size ≤ 50000000 := by rw [show (⟨#[61, 34]⟩ : ByteArray).size = 2 from rfl]; omega
              have g3 : X2.size + v.size ≤ 50000000 := by omega
              have g4 : X3.size + (⟨#[34]⟩ : ByteArray).size ≤ 50000000 := by rw [show (⟨#[34]⟩ : ByteArray).size = 1 from rfl]; omega
              have g5 : B.size + X4.size ≤ 50000000 := by omega
              have HX := Lib.hid (show nums X5 = nums B ++ 32 :: (nums n ++ ([61, 34] ++ (nums v ++ [34]))) by
                rw [← hX5, nums_app7, ← hX4, nums_app7, ← hX3, nums_app7, ← hX2, nums_app7, ← hX1, nums_app7]
                show nums B ++ ((([32] ++ nums n) ++ [61, 34] ++ nums v) ++ [34]) = _
                simp)
              obtain ⟨v', w', hrun, hro, hbo, _, _⟩ := app_two w2 w.heap.size _ ps.length _ hrow2 n v (by omega) hbw2.size
              have HRUN := Lib.hid hrun
              have HRO := Lib.hid (show w'.ownsRow w.heap.size 38 2 v' (ps ++ [(nums n, nums v)]).length (dcC (ps ++ [(nums n, nums v)])) by
                rw [dcC_snoc, List.length_append, strOfNums_nums, strOfNums_nums]; exact hro)
              have HQ2 := Lib.hid (show nums X5 = [60, 63, 120, 109, 108] ++ madeD (ps ++ [(nums n, nums v)]) ∧ ∀ p ∈ ps ++ [(nums n, nums v)], goodD p from
                ⟨by rw [HX.out, HQ.out.1, madeD_snoc]; simp, fun p hp => by
                  rw [List.mem_append, List.mem_singleton] at hp
                  rcases hp with hp | rfl
                  · exact HQ.out.2 p hp
                  · exact ⟨fun e => hn0 (by rw [← nums_length, show nums n = [] from e]; rfl), HALL.out, HALV.out⟩⟩)
              clear hrun hro hcv2 hrow2 hrow1 hrow
              go_wp2_with (at_builtin; refine wpList_append_run rfl _ _ _ _ rfl _ _ rfl rfl _ _ HRUN.out ?_)
              exact ⟨⟨k + 1, X5, ps ++ [(nums n, nums v)], rfl, by go_num, by omega, by simp [hpl], by omega, HRO.out, hbw2.trans hbo, HQ2⟩, by simp [intOf]; omega⟩
    · obtain ⟨B2, hB2, hn2, hB2s⟩ : ∃ B2, ((ns.length = 0 ∧ B ++ (⟨#[32]⟩ : ByteArray) = B2) ∨ (ns.length ≠ 0 ∧ B = B2)) ∧ nums B2 = [60, 63, 120, 109, 108] ++ bodyD ps ∧ B2.size ≤ B.size + 1 := by
        by_cases h0 : ns.length = 0
        · refine ⟨_, .inl ⟨h0, rfl⟩, ?_, by rw [ByteArray.size_append]; exact Nat.le_refl _⟩
          have hp0 : ps = [] := List.eq_nil_of_length_eq_zero (by omega)
          rw [nums_app7, HQ.out.1, hp0]
          rfl
        · refine ⟨B, .inr ⟨h0, rfl⟩, ?_, by omega⟩
          rw [HQ.out.1]
          unfold bodyD
          rw [if_neg (fun e => by rw [e] at hpl; simp at hpl; omega)]
      obtain ⟨Y1, hY1⟩ : ∃ X, B2 ++ (⟨#[63, 62]⟩ : ByteArray) = X := ⟨_, rfl⟩
      obtain ⟨Y, hY⟩ : ∃ X, Y1 ++ d = X := ⟨_, rfl⟩
      have z1 : Y1.size = B2.size + 2 := by rw [← hY1, ByteArray.size_append]; rfl
      have z2 : Y.size = Y1.size + d.size := by rw [← hY, ByteArray.size_append]
      have g1 : B2.size + (⟨#[63, 62]⟩ : ByteArray).size ≤ 50000000 := by rw [show (⟨#[63, 62]⟩ : ByteArray).size = 2 from rfl]; omega
      have g2 : Y1.size + d.size ≤ 50000000 := by omega
      have g0 : B.size + (⟨#[32]⟩ : ByteArray).size ≤ 50000000 := by rw [show (⟨#[32]⟩ : ByteArray).size = 1 from rfl]; omega
      have hbody : (bodyD ps).length ≤ 190 := by
        have := congrArg List.length hn2
        rw [nums_length, List.length_append] at this
        have e : ([60, 63, 120, 109, 108] : List Int).length = 5 := rfl
        omega
      have hPY : partsD (nums Y) = ps := by
        have e : nums Y = [60, 63, 120, 109, 108] ++ (bodyD ps ++ 63 :: 62 :: nums d) := by
          rw [← hY, nums_app7, ← hY1, nums_app7, hn2]
          show ([60, 63, 120, 109, 108] ++ bodyD ps) ++ [63, 62] ++ nums d = _
          simp
        rw [e]
        exact partsD_made ps _ HQ.out.2 hbody
      have A1 := Lib.hid (fun u hu => by have h := declare_Parts Y (by omega) u m hu; rw [hPY] at h; exact h)
      have S1 := Lib.hid (fun u (va vb : Value) (b1 b2 : Nat) h1 h2 => ref07_Same u b1 b2 va vb ps h1 h2 (by omega))
      clear hn2 hbody hPY HN HV
      rcases hB2 with ⟨h0, hBB⟩ | ⟨h0, rfl⟩
      · have q0 : ((ns.length : Int) == 0) = true := by simpa using h0
        go_wp2_with fail
        refine (A1.out _ (HM.out.below hbw)).mono ?_
        rintro e w2 ⟨vc, rfl, hrc, hb2⟩
        have hbw2 := bt hbw hb2
        have HS := Lib.hid (S1.out w2 _ _ _ _ hrc (own_below hrow hb2 (Nat.le_refl _)))
        clear hrc hrow
        go_wp2_with fail
        refine HS.out.mono ?_
        rintro e w3 ⟨rfl, hb3⟩
        have hbw3 := bt hbw2 hb3
        go_wp2_with fail
        refine (HW.out _ (HM.out.below hbw3)).mono ?_
        rintro e w9 ⟨rfl, hb9⟩
        go_wp2
        go_ret
        exact ⟨rfl, bt hbw3 hb9⟩
      · have q0 : ((ns.length : Int) == 0) = false := by simpa using h0
        go_wp2_with fail
        refine (A1.out _ (HM.out.below hbw)).mono ?_
        rintro e w2 ⟨vc, rfl, hrc, hb2⟩
        have hbw2 := bt hbw hb2
        have HS := Lib.hid (S1.out w2 _ _ _ _ hrc (own_below hrow hb2 (Nat.le_refl _)))
        clear hrc hrow
        go_wp2_with fail
        refine HS.out.mono ?_
        rintro e w3 ⟨rfl, hb3⟩
        have hbw3 := bt hbw2 hb3
        go_wp2_with fail
        refine (HW.out _ (HM.out.below hbw3)).mono ?_
        rintro e w9 ⟨rfl, hb9⟩
        go_wp2
        go_ret
        exact ⟨rfl, bt hbw3 hb9⟩
end Go.Proofs.Ytaheooedcjjckaa
