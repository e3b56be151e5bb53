/-
  Layer 6: the walk of media's Text, a right type.
-/
import Derived.Test.YtjemlaiciacnpaaMoD
import Derived.Test.YtjemlaiciacnpaaMoR
namespace Go.Proofs.Ytjemlaiciacnpaa
open Go.RowKit
theorem nums_app (x y : ByteArray) : nums (x ++ y) = nums x ++ nums y := by
  unfold nums
  rw [ByteArray.data_append, Array.toList_append, List.map_append]
set_option maxRecDepth 100000 in
set_option maxHeartbeats 8000000 in
theorem media_Text_yes (B : Nat) (t : ByteArray) (v : Value) (qs : List (ByteArray × ByteArray)) (w : World) (m : Int) (hm : MaxAt w m) (hr : CReads B w v qs.length (pairCells qs)) (hB : B ≤ w.heap.size) (ht : t.size ≤ 1000000) (hl : qs.length ≤ 1000000) (hz : ∀ q ∈ qs, q.1.size ≤ 1000000 ∧ q.2.size ≤ 1000000) (hT : typB (nums t) = true) :
    Calls Try.prog 18 #[.agg #[.string t, v]] w fun e w' => TxtR (txtN (nums t) (numsP qs)) e ∧ Below w.heap.size w w' := by
  have HYE := Lib.hid hT
  clear hT
  have hr0 := hr
  obtain ⟨a, cap, rfl, -⟩ := hr0
  obtain ⟨N, hN⟩ : ∃ N, qs.length = N := ⟨_, rfl⟩
  rw [hN] at hr hl ⊢
  have T0 : TxI w w.heap.size #[.string t, .slice a N cap] m (w.alloc (.cells #[.string t, .slice a N cap] 25)) :=
    ⟨BlkAt.new w _ _, (Below.refl w.heap.size w).alloc (Nat.le_refl _) _, by simp, hm.below ((Below.refl w.heap.size w).alloc (Nat.le_refl _) _)⟩
  have HLO := Lib.hid (fun u => media_Lower t u (by omega))
  obtain ⟨R, hR⟩ : ∃ R, txtN (nums t) (numsP qs) = R := ⟨_, rfl⟩
  rw [hR]
  obtain ⟨X, hX⟩ : ∃ X, strOfNums (lowL (nums t)) = X := ⟨_, rfl⟩
  rw [hX] at HLO
  have hlo : lowL (nums t) = nums t ↔ X = t := by
    rw [← hX]
    constructor
    · intro h; rw [h, strOfNums_nums]
    · intro h
      have := congrArg nums h
      rwa [nums_strOfNums _ (isBs_lowM (nums_isBs t))] at this
  clear hX
  have HR := Lib.hid hR
  have HLO2 := Lib.hid hlo
  clear hlo hR
  go_enter Try.func18, Try.ntmps18
  have hc0 := T0.blk.cell 0 rfl
  go_wp2_with fail
  obtain ⟨bm, hbm⟩ : ∃ bm, w.heap.size = bm := ⟨_, rfl⟩
  have HBM := Lib.hid hbm
  rw [hbm] at T0 hc0 ⊢
  clear hbm
  generalize w.alloc (.cells #[.string t, .slice a N cap] 25) = w1 at T0 hc0 ⊢
  refine (cut_slash t w1 m ht T0.mx).mono ?_
  rintro e w2 ⟨ca, cb, ok, rfl, hb2, hcut⟩
  replace T0 := T0.below hb2
  clear hb2
  replace hc0 := T0.blk.cell 0 rfl
  rcases hcut with ⟨rfl, h47, htt, hca, hcb⟩ | ⟨rfl, h47⟩
  · have HT := Lib.hid (fun (x : ByteArray) (h : x.size ≤ 1000000) u => media_token x u h)
    have hca2 : ca.size ≤ 1000000 := by omega
    have hcb2 : cb.size ≤ 1000000 := by omega
    have htyp : typB (nums t) = (tokB (nums ca) && (tokB (nums cb) && decide (X = t))) := by
      rw [htt, typB_cut _ _ h47, ← htt]
      congr 2
      exact decide_eq_decide.2 HLO2.out
    rw [HYE.out] at htyp
    have htyp2 := htyp.symm
    rw [Bool.and_eq_true, Bool.and_eq_true] at htyp2
    obtain ⟨hk1, hk2, hx⟩ := htyp2
    have hx : X = t := of_decide_eq_true hx
    clear htt h47 htyp
    have HK1 := Lib.hid hk1
    have HK2 := Lib.hid hk2
    clear hk1 hk2
    have e2 : (X.toList == t.toList) = true := by rw [hx]; simp
    clear hx
    have hRr : R = (parT (numsP (qs.drop 0))).map fun q => nums t ++ q := by rw [← HR.out]; unfold txtN; rw [HYE.out]; rfl
    have HRR := Lib.hid hRr
    clear hRr
    replace T0 := T0.drew
    replace hc0 := T0.blk.cell 0 rfl
    go_wp2_with fail
    go_region_held3 (fun w' => w'.cell? ⟨bm, 0, none⟩ = some (.string t)) (first | go_keep | exact hc0) (first
      | (go_at_call 30; refine (HT.out _ (by first | exact hca2 | exact hcb2) _).mono ?_; (first | rw [HK1.out] | rw [HK2.out]); rintro e w7 ⟨rfl, hb⟩; have T0 := T0.below hb; have hc0 := T0.blk.cell 0 rfl)
      | (go_at_call 15; refine (HLO.out _).mono ?_; rintro e w7 ⟨rfl, hb⟩; have T0 := T0.below hb; have hc0 := T0.blk.cell 0 rfl))
    have hc1 := T0.blk.cell 1 rfl
    go_wp2_with fail
    go_loopw [7, 44] (fun o i wr => ∃ (k : Nat) (O : ByteArray), o = .string O ∧ i = .int .i64 k ∧ k ≤ N ∧ O.size ≤ 1000000 + k * 3000010 ∧ Hid (R = (parT (numsP (qs.drop k))).map fun q => nums O ++ q) ∧ TxI w bm #[.string t, .slice a N cap] m wr) (fun _ i _ => N - (intOf i).toNat)
    case atStart => exact ⟨0, t, rfl, rfl, by omega, by omega, HRR, T0⟩
    case round =>
      clear hc1 hc0 T0 HRR
      obtain ⟨k, O, rfl, rfl, hk, hO, HK, T⟩ := hrel
      by_cases hlt : k < N
      · obtain ⟨b, off, cap', q1, q2, hv, hq, hdr, hw0, hw1⟩ := hr.pair T.bl hB k (by omega)
        cases hv
        have hqz := hz (q1, q2) (List.mem_of_getElem? hq)
        have hqk := HK.out
        rw [hdr] at hqk
        have hqk2 : R = (parT ((nums q1, nums q2) :: numsP (qs.drop (k + 1)))).map fun q => nums O ++ q := hqk
        rw [parT] at hqk2
        have P0 := T.par q1 q2
        have hWR := fun u => media_written q2 u hqz.2
        have HTQ := Lib.hid (fun u => media_token q1 u hqz.1)
        have hLQ := fun u => media_Lower q1 u (by have h : q1.size ≤ 1000000 := hqz.1; omega)
        obtain ⟨Y, hY⟩ : ∃ Y, strOfNums (lowL (nums q1)) = Y := ⟨_, rfl⟩
        rw [hY] at hLQ
        have hlo : lowL (nums q1) = nums q1 ↔ Y = q1 := by
          rw [← hY]
          constructor
          · intro h; rw [h, strOfNums_nums]
          · intro h
            have := congrArg nums h
            rwa [nums_strOfNums _ (isBs_lowM (nums_isBs q1))] at this
        have HLQ := Lib.hid hLQ
        have hnam : namB (nums q1) = (tokB (nums q1) && decide (Y = q1)) := by
          unfold namB
          congr 1
          exact decide_eq_decide.2 hlo
        rw [hnam] at hqk2
        clear hqk hdr hq hr HK hlo hY hLQ hnam HT HK1 HK2 HLO e2 hca2 hcb2
        cases hwr : wriN (nums q2) with
        | none =>
          have hRn : R = none := by rw [hqk2]; simp only [hwr]; split <;> rfl
          subst hRn
          rw [hwr] at hWR
          have HWR := Lib.hid hWR
          clear hWR hqk2 hwr
          go_wp2_with fail
          refine (HWR.out _).mono ?_
          rintro e w3 ⟨rfl, hb3⟩
          replace P0 := (P0.below hb3).drew
          have hd0 := P0.par.cell 0 rfl
          clear hb3
          go_wp2_with fail
          first | go_region_with (fail) | fail
          all_goals
            go_wp2_with fail
            go_ret2
            exact ⟨rfl, P0.t.bl⟩
        | some x =>
          have hxb := wriN_bs (nums_isBs q2) hwr
          have hxl := wriN_len hwr
          rw [nums_length] at hxl
          rw [hwr] at hWR
          obtain ⟨V, hV⟩ : ∃ V, strOfNums x = V := ⟨_, rfl⟩
          rw [show (some x).getD [] = x from rfl, hV] at hWR
          have hVz : V.size = x.length := by rw [← hV]; simp [strOfNums, ByteArray.size]
          have hn1 : q1.size ≤ 1000000 := hqz.1
          have hn2 : q2.size ≤ 1000000 := hqz.2
          have hs1 : ¬ 9223372036854775807 < 2 + q1.size + 1 + V.size := by omega
          have hs2 : ¬ 9223372036854775807 < O.size + (2 + q1.size + 1 + V.size) := by omega
          have HVZ : O.size + (2 + q1.size + 1 + V.size) ≤ 1000000 + (k + 1) * 3000010 := by omega
          clear hVz hxl
          have HV := Lib.hid (show nums V = x by rw [← hV, nums_strOfNums _ hxb])
          have HWR := Lib.hid hWR
          simp only [hwr] at hqk2
          clear hWR hwr hV hxb
          cases htk : tokB (nums q1) with
          | false =>
            have hRn : R = none := by rw [hqk2, htk]; rfl
            subst hRn
            clear hqk2
            have HTK := Lib.hid htk
            clear htk
            go_wp2_with fail
            refine (HWR.out _).mono ?_
            rintro e w3 ⟨rfl, hb3⟩
            replace P0 := (P0.below hb3).drew
            have hd0 := P0.par.cell 0 rfl
            clear hb3
            go_wp2_with fail
            first | go_region_with ((go_at_call 30; refine (HTQ.out _).mono ?_; rw [HTK.out]; rintro e w7 ⟨rfl, hb⟩; have P0 := P0.below hb; have hd0 := P0.par.cell 0 rfl)) | fail
            all_goals
              go_wp2_with fail
              go_ret2
              exact ⟨rfl, P0.t.bl⟩
          | true =>
            by_cases hyq : Y = q1
            · have e3 : (Y.toList == q1.toList) = true := by rw [hyq]; simp
              have hR2 : R = (parT (numsP (qs.drop (k + 1)))).map fun q => nums O ++ (59 :: 32 :: (nums q1 ++ 61 :: (x ++ q))) := by
                rw [hqk2, htk, decide_eq_true hyq, Bool.and_true, if_pos rfl, Option.map_map]
                rfl
              have HR2 := Lib.hid hR2
              have HTK := Lib.hid htk
              clear hqk2 htk hyq hR2
              go_wp2_with fail
              refine (HWR.out _).mono ?_
              rintro e w3 ⟨rfl, hb3⟩
              replace P0 := (P0.below hb3).drew
              have hd0 := P0.par.cell 0 rfl
              clear hb3
              go_wp2_with fail
              obtain ⟨pp, hpp⟩ : ∃ pp, wr.heap.size = pp := ⟨_, rfl⟩
              rw [hpp] at P0 hd0 ⊢
              clear hpp
              go_region_held3 (fun w' => w'.cell? ⟨pp, 0, none⟩ = some (.string q1)) (first | go_keep | exact hd0) (first
                | (go_at_call 30; refine (HTQ.out _).mono ?_; rw [HTK.out]; rintro e w7 ⟨rfl, hb⟩; have P0 := P0.below hb; have hd0 := P0.par.cell 0 rfl)
                | (go_at_call 15; refine (HLQ.out _).mono ?_; rintro e w7 ⟨rfl, hb⟩; have P0 := P0.below hb; have hd0 := P0.par.cell 0 rfl))
              have hd9 := P0.par.cell 0 rfl
              go_wp2_with fail
              refine ⟨⟨k + 1, _, rfl, by go_num, by omega, ?_, Lib.hid ?_, P0.t⟩, by simp [intOf]; omega⟩
              · simp only [ByteArray.size_append]; exact HVZ
              rw [HR2.out]
              congr 1
              funext q
              rw [nums_app, nums_app, nums_app, nums_app, HV.out]
              show _ = nums O ++ (([59, 32] ++ nums q1 ++ [61]) ++ x) ++ q
              simp
            · have e3 := toList_ne hyq
              have hRn : R = none := by rw [hqk2, htk, decide_eq_false hyq]; rfl
              subst hRn
              have HTK := Lib.hid htk
              clear hqk2 htk hyq
              go_wp2_with fail
              refine (HWR.out _).mono ?_
              rintro e w3 ⟨rfl, hb3⟩
              replace P0 := (P0.below hb3).drew
              have hd0 := P0.par.cell 0 rfl
              clear hb3
              go_wp2_with fail
              obtain ⟨pp, hpp⟩ : ∃ pp, wr.heap.size = pp := ⟨_, rfl⟩
              rw [hpp] at P0 hd0 ⊢
              clear hpp
              go_region_held3 (fun w' => w'.cell? ⟨pp, 0, none⟩ = some (.string q1)) (first | go_keep | exact hd0) (first
                | (go_at_call 30; refine (HTQ.out _).mono ?_; rw [HTK.out]; rintro e w7 ⟨rfl, hb⟩; have P0 := P0.below hb; have hd0 := P0.par.cell 0 rfl)
                | (go_at_call 15; refine (HLQ.out _).mono ?_; rintro e w7 ⟨rfl, hb⟩; have P0 := P0.below hb; have hd0 := P0.par.cell 0 rfl))
              all_goals
                go_wp2_with fail
                go_ret2
                exact ⟨rfl, P0.t.bl⟩
      · rw [List.drop_eq_nil_of_le (by omega)] at HK
        have hRs : R = some (nums O) := by rw [HK.out]; simp [numsP, parT]
        subst hRs
        clear hr
        go_wp2_with fail
        go_ret2
        exact ⟨by unfold TxtR; rw [show (some (nums O)).getD [] = nums O from rfl, strOfNums_nums]; rfl, T.bl⟩
  · exact absurd (HYE.out.symm.trans (typB_none _ h47)) (by decide)
theorem media_Text (B : Nat) (t : ByteArray) (v : Value) (qs : List (ByteArray × ByteArray)) (w : World) (m : Int) (hm : MaxAt w m) (hr : CReads B w v qs.length (pairCells qs)) (hB : B ≤ w.heap.size) (ht : t.size ≤ 1000000) (hl : qs.length ≤ 1000000) (hz : ∀ q ∈ qs, q.1.size ≤ 1000000 ∧ q.2.size ≤ 1000000) :
    Calls Try.prog 18 #[.agg #[.string t, v]] w fun e w' => TxtR (txtN (nums t) (numsP qs)) e ∧ Below w.heap.size w w' := by
  cases hT : typB (nums t) with
  | true => exact media_Text_yes B t v qs w m hm hr hB ht hl hz hT
  | false => exact media_Text_no B t v qs w m hm hr ht hT
end Go.Proofs.Ytjemlaiciacnpaa
