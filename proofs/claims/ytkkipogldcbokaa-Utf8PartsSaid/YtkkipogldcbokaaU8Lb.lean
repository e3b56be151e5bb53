/-
  The walks of layer 2's statements: Utf8Parts, Utf8Back.
-/
import Derived.Test.YtkkipogldcbokaaU8L
import Derived.Test.YtkkipogldcbokaaU8N
namespace Go.Proofs.Ytkkipogldcbokaa
open Go.RowKit
theorem nums_append (a b : ByteArray) : nums (a ++ b) = nums a ++ nums b := by
  unfold nums
  rw [ByteArray.data_append, Array.toList_append, List.map_append]
theorem strOfNums_append (a b : List Int) : strOfNums a ++ strOfNums b = strOfNums (a ++ b) := by
  unfold strOfNums
  rw [List.map_append]
  apply ByteArray.ext
  rw [ByteArray.data_append]
  simp
set_option maxHeartbeats 1000000 in
theorem law_Utf8Parts (a b c : ByteArray) (w : World) (ha : a.size ≤ 140737488351232) (hb : b.size ≤ 140737488351232) (hc : c.size ≤ 140737488351232) :
    Calls Try.prog 4 #[.string a, .string b, .string c] w fun e w' => e = .returned (.bool true) ∧ Below w.heap.size w w' := by
  by_cases h : a.size + b.size + c.size ≤ 4000
  · cases oa : okAll (nums a) with
    | false =>
      have OA := Lib.hid oa
      clear oa
      go_enter Try.func4, Try.ntmps4
      go_wp2_with fail
      refine (ref02_Valid a _ (by omega)).mono ?_
      rw [OA.out]
      rintro e w1 ⟨rfl, hb1⟩
      go_wp2_with fail
      refine (law02_wakes _).mono ?_
      rintro e w2 ⟨rfl, hb2⟩
      go_wp2
      go_ret
      exact ⟨rfl, hb1.trans (hb2.mono hb1.size)⟩
    | true =>
      have OA := Lib.hid oa
      cases oc : okAll (nums c) with
      | false =>
        have OC := Lib.hid oc
        clear oc oa
        go_enter Try.func4, Try.ntmps4
        go_wp2_with fail
        refine (ref02_Valid a _ (by omega)).mono ?_
        rw [OA.out]
        rintro e w1 ⟨rfl, hb1⟩
        go_wp2_with fail
        refine (ref02_Valid c _ (by omega)).mono ?_
        rw [OC.out]
        rintro e w2 ⟨rfl, hb2⟩
        have hb12 := hb1.trans (hb2.mono hb1.size)
        go_wp2_with fail
        refine (law02_wakes _).mono ?_
        rintro e w3 ⟨rfl, hb3⟩
        go_wp2
        go_ret
        exact ⟨rfl, hb12.trans (hb3.mono hb12.size)⟩
      | true =>
        have OC := Lib.hid oc
        have hl := looseN_parts (nums a) (nums b) (nums c) (nums_isBs a) (nums_isBs c) oa oc
        have hf := firstN_parts (nums a) (nums b) (nums c) (nums_isBs a) (nums_isBs c) oa oc
        obtain ⟨m, hm⟩ : ∃ x, strOfNums (looseN (nums b)) = x := ⟨_, rfl⟩
        have hs : strOfNums (looseN (nums (a ++ b ++ c))) = a ++ m ++ c := by
          rw [nums_append, nums_append, List.append_assoc, hl, ← hm]
          conv => rhs; rw [← strOfNums_nums a, ← strOfNums_nums c]
          rw [strOfNums_append, strOfNums_append, List.append_assoc]
        obtain ⟨n, hn⟩ : ∃ x, firstN (nums b) = x := ⟨_, rfl⟩
        have hnl : -1 ≤ n := by rw [← hn]; exact firstP_lo _ _
        have hfs : firstN (nums (a ++ b ++ c)) = if n < 0 then n else n + a.size := by
          rw [nums_append, nums_append, List.append_assoc, hf, hn, nums_length]
        have hnu : n ≤ 4000 := by have := firstN_hi (nums b); rw [nums_length] at this; omega
        have hmz : m.size ≤ 16000 := by
          rw [← hm, strOfNums_size]
          have := looseN_len (nums b)
          rw [nums_length] at this
          omega
        have hsz : (a ++ b ++ c).size ≤ 4000 := by simp [ByteArray.size_append]; omega
        have S := Lib.hid hs
        have M := Lib.hid hm
        have N := Lib.hid hn
        have FS := Lib.hid hfs
        clear hl hf hs hm hn hfs oa oc
        by_cases hn0 : n < 0
        · go_enter Try.func4, Try.ntmps4
          go_wp2_with fail
          refine (ref02_Valid a _ (by omega)).mono ?_
          rw [OA.out]
          rintro e w1 ⟨rfl, hb1⟩
          go_wp2_with fail
          refine (ref02_Valid c _ (by omega)).mono ?_
          rw [OC.out]
          rintro e w2 ⟨rfl, hb2⟩
          have hb12 := hb1.trans (hb2.mono hb1.size)
          go_wp2_with fail
          refine (utf8_Loose (a ++ b ++ c) _ (by omega)).mono ?_
          rw [S.out, FS.out, if_pos hn0]
          rintro e w3 ⟨rfl, hb3⟩
          have hb13 := hb12.trans (hb3.mono hb12.size)
          go_wp2_with fail
          refine (utf8_Loose b _ (by omega)).mono ?_
          rw [M.out, N.out]
          rintro e w4 ⟨rfl, hb4⟩
          have hb14 := hb13.trans (hb4.mono hb13.size)
          go_wp2_with fail
          refine (law02_wakes _).mono ?_
          rintro e w5 ⟨rfl, hb5⟩
          go_wp2
          go_ret
          exact ⟨rfl, hb14.trans (hb5.mono hb14.size)⟩
        · go_enter Try.func4, Try.ntmps4
          go_wp2_with fail
          refine (ref02_Valid a _ (by omega)).mono ?_
          rw [OA.out]
          rintro e w1 ⟨rfl, hb1⟩
          go_wp2_with fail
          refine (ref02_Valid c _ (by omega)).mono ?_
          rw [OC.out]
          rintro e w2 ⟨rfl, hb2⟩
          have hb12 := hb1.trans (hb2.mono hb1.size)
          go_wp2_with fail
          refine (utf8_Loose (a ++ b ++ c) _ (by omega)).mono ?_
          rw [S.out, FS.out, if_neg (by omega)]
          rintro e w3 ⟨rfl, hb3⟩
          have hb13 := hb12.trans (hb3.mono hb12.size)
          go_wp2_with fail
          refine (utf8_Loose b _ (by omega)).mono ?_
          rw [M.out, N.out]
          rintro e w4 ⟨rfl, hb4⟩
          have hb14 := hb13.trans (hb4.mono hb13.size)
          go_wp2_with fail
          refine (law02_wakes _).mono ?_
          rintro e w5 ⟨rfl, hb5⟩
          go_wp2
          go_ret
          exact ⟨rfl, hb14.trans (hb5.mono hb14.size)⟩
  · go_enter Try.func4, Try.ntmps4
    go_wp2_with fail
    refine (law02_wakes _).mono ?_
    rintro e w3 ⟨rfl, hb3⟩
    go_wp2
    go_ret
    exact ⟨rfl, hb3⟩
/-- so many bytes the first k scalars have. -/
def lenSum (xs : List Int) : Int := (encAll xs).length
theorem lenSum_snoc (xs : List Int) (x : Int) : lenSum (xs ++ [x]) = lenSum xs + sLen x := by
  unfold lenSum
  rw [encAll_snoc, List.length_append, sLen_enc]
  simp
theorem sLen_lo (r : Int) : 0 ≤ sLen r ∧ sLen r ≤ 4 := by
  rw [sLen_enc]
  have := encN_len r
  omega
theorem scalL_len (s : ByteArray) (h1 : s.size ≤ 4000) : (scalL (nums s)).length ≤ 4000 := by
  have := pieces_len (nums s).length (nums s)
  rw [nums_length] at this
  unfold scalL pieces
  split
  · rw [List.length_map, nums_length]; omega
  · simp
set_option maxHeartbeats 4000000 in
theorem law_Utf8Back (v : Value) (xs : List Int) (s : ByteArray) (w : World) (hr : Reads w.heap.size w v (xs.map (Value.int .i64))) :
    Calls Try.prog 8 #[v, .string s] w fun e w' => e = .returned (.bool true) ∧ Below w.heap.size w w' := by
  have hr0 := hr
  obtain ⟨a, cap, rfl, hl, hcells⟩ := hr.open
  by_cases h : xs.length ≤ 1000 ∧ s.size ≤ 4000
  · obtain ⟨h2, h1⟩ := h
    unfold maxLen at hl
    have hts : (textS xs).size ≤ 4000 := by
      unfold textS
      split
      · rw [strOfNums_size]; have := encAll_len xs; omega
      · rw [strOfNums_size]; simp
    cases hta : scAll xs with
    | false =>
      have A := Lib.hid hta
      go_enter Try.func8, Try.ntmps8
      go_wp2_with fail
      refine (utf8_Text _ xs _ _ hr0 (Nat.le_refl _) (by omega)).mono ?_
      rw [A.out]
      rintro e w1 ⟨rfl, hb1⟩
      go_wp2_with fail
      cases okS : okAll (nums s) with
      | true =>
        obtain ⟨hsc1, hsc2⟩ := ok_scal (nums s) (nums_isBs s) okS
        have htx : textS (scalL (nums s)) = s := by rw [textS_yes hsc1, hsc2, strOfNums_nums]
        have hlo : strOfNums (looseN (nums s)) = s := by rw [loose_ok _ (nums_isBs s) okS, strOfNums_nums]
        have hfi := firstN_none (nums s) okS
        obtain ⟨sc, hsc⟩ : ∃ x, scalL (nums s) = x := ⟨_, rfl⟩
        have hscl : sc.length ≤ 4000 := by rw [← hsc]; exact scalL_len s h1
        rw [hsc] at hsc1 htx
        have SC := Lib.hid hsc
        have S1 := Lib.hid hsc1
        have TX := Lib.hid htx
        have LO := Lib.hid hlo
        have FI := Lib.hid hfi
        have OK := Lib.hid okS
        clear hsc hsc1 hsc2 htx hlo hfi okS
        refine (utf8_Scalars s _ (by omega)).mono ?_
        rw [SC.out, OK.out]
        rintro e x1 ⟨v1, rfl, ho1, hx1⟩
        have hy1 := hb1.trans (hx1.mono hb1.size)
        go_wp2_with fail
        refine (utf8_Text v1 sc _ _ (Reads.of_own ho1 (by unfold maxLen; omega)) (Nat.le_refl _) (by omega)).mono ?_
        rw [TX.out, S1.out]
        rintro e x2 ⟨rfl, hx2⟩
        have hy2 := hy1.trans (hx2.mono hy1.size)
        go_wp2_with fail
        refine (utf8_Loose s _ (by omega)).mono ?_
        rw [LO.out, FI.out]
        rintro e x3 ⟨rfl, hx3⟩
        have hy3 := hy2.trans (hx3.mono hy2.size)
        go_wp2_with fail
        refine (utf8_Loose s _ (by omega)).mono ?_
        rw [LO.out, FI.out]
        rintro e x4 ⟨rfl, hx4⟩
        have hy4 := hy3.trans (hx4.mono hy3.size)
        go_wp2_with fail
        refine (utf8_Valid s _ (by omega)).mono ?_
        rw [OK.out]
        rintro e x5 ⟨rfl, hx5⟩
        have hy5 := hy4.trans (hx5.mono hy4.size)
        go_wp2_with fail
        refine (utf8_Valid s _ (by omega)).mono ?_
        rw [OK.out]
        rintro e x6 ⟨rfl, hx6⟩
        have hy6 := hy5.trans (hx6.mono hy5.size)
        go_wp2_with fail
        refine (law02_wakes _).mono ?_
        rintro e x7 ⟨rfl, hx7⟩
        go_wp2
        go_ret
        exact ⟨rfl, hy6.trans (hx7.mono hy6.size)⟩
      | false =>
        have hsc : scalL (nums s) = [] := by unfold scalL; rw [if_neg (by rw [okS]; decide)]
        obtain ⟨lo, hlo⟩ : ∃ x, strOfNums (looseN (nums s)) = x := ⟨_, rfl⟩
        have hnl : nums lo = looseN (nums s) := by rw [← hlo]; exact nums_strOfNums _ (looseN_isBs _)
        have hok2 : okAll (nums lo) = true := by rw [hnl]; exact okAll_loose _ (nums_isBs s)
        have hlo2 : strOfNums (looseN (nums lo)) = lo := by rw [loose_ok _ (nums_isBs lo) hok2, strOfNums_nums]
        have hfi2 := firstN_none (nums lo) hok2
        have hlz : lo.size ≤ 16000 := by
          rw [← hlo, strOfNums_size]
          have := looseN_len (nums s)
          rw [nums_length] at this
          omega
        obtain ⟨n, hn⟩ : ∃ x, firstN (nums s) = x := ⟨_, rfl⟩
        have hn0 : 0 ≤ n := by rw [← hn]; exact firstN_some _ okS
        have hnb : (n == -1) = false := by simp; omega
        have SC := Lib.hid hsc
        have LO := Lib.hid hlo
        have LO2 := Lib.hid hlo2
        have FI := Lib.hid hn
        have FI2 := Lib.hid hfi2
        have OK := Lib.hid okS
        have OK2 := Lib.hid hok2
        clear hsc hlo hnl hok2 hlo2 hfi2 hn okS
        refine (utf8_Scalars s _ (by omega)).mono ?_
        rw [SC.out, OK.out]
        rintro e x1 ⟨v1, rfl, ho1, hx1⟩
        have hy1 := hb1.trans (hx1.mono hb1.size)
        go_wp2_with fail
        refine (utf8_Text v1 [] _ _ (Reads.of_own ho1 (by unfold maxLen; simp)) (Nat.le_refl _) (by simp)).mono ?_
        rintro e x2 ⟨rfl, hx2⟩
        have hy2 := hy1.trans (hx2.mono hy1.size)
        go_wp2_with fail
        refine (utf8_Loose s _ (by omega)).mono ?_
        rw [LO.out, FI.out]
        rintro e x3 ⟨rfl, hx3⟩
        have hy3 := hy2.trans (hx3.mono hy2.size)
        go_wp2_with fail
        refine (utf8_Loose lo _ (by omega)).mono ?_
        rw [LO2.out, FI2.out]
        rintro e x4 ⟨rfl, hx4⟩
        have hy4 := hy3.trans (hx4.mono hy3.size)
        go_wp2_with fail
        refine (utf8_Valid s _ (by omega)).mono ?_
        rw [OK.out]
        rintro e x5 ⟨rfl, hx5⟩
        have hy5 := hy4.trans (hx5.mono hy4.size)
        go_wp2_with fail
        refine (utf8_Valid lo _ (by omega)).mono ?_
        rw [OK2.out]
        rintro e x6 ⟨rfl, hx6⟩
        have hy6 := hy5.trans (hx6.mono hy5.size)
        go_wp2_with fail
        refine (law02_wakes _).mono ?_
        rintro e x7 ⟨rfl, hx7⟩
        go_wp2
        go_ret
        exact ⟨rfl, hy6.trans (hx7.mono hy6.size)⟩
    | true =>
      have htx : textS xs = strOfNums (encAll xs) := textS_yes hta
      have hnt : nums (textS xs) = encAll xs := by rw [htx]; exact nums_strOfNums _ (isBs_encAll xs)
      have hoT : okAll (nums (textS xs)) = true := by rw [hnt]; exact okAll_encAll xs hta
      have hsT : scalL (nums (textS xs)) = xs := by rw [hnt]; exact scalL_encAll xs hta
      have hzT : lenSum xs = ((textS xs).size : Int) := by rw [htx, strOfNums_size]; rfl
      obtain ⟨t, ht⟩ : ∃ x, textS xs = x := ⟨_, rfl⟩
      rw [ht] at hts hoT hsT hzT
      have A := Lib.hid hta
      have T := Lib.hid ht
      have OT := Lib.hid hoT
      have ST := Lib.hid hsT
      have ZT := Lib.hid hzT
      clear ht hta hoT hsT hzT hnt htx
      go_enter Try.func8, Try.ntmps8
      go_wp2_with fail
      refine (utf8_Text _ xs _ _ hr0 (Nat.le_refl _) (by omega)).mono ?_
      rw [A.out, T.out]
      rintro e w1 ⟨rfl, hb1⟩
      go_wp2_with fail
      refine (utf8_Scalars t _ (by omega)).mono ?_
      rw [ST.out, OT.out]
      rintro e w2 ⟨v2, rfl, ho2, hb2⟩
      have hb12 := hb1.trans (hb2.mono hb1.size)
      go_wp2_with fail
      go_loopw [9, 10] (fun n i wr => ∃ k : Nat, i = .int .i64 k ∧ k ≤ xs.length ∧ n = .int .i64 (lenSum (xs.take k)) ∧ Below w2.heap.size w2 wr) (fun _ i _ => xs.length - (intOf i).toNat)
      case atStart => exact ⟨0, rfl, by omega, rfl, Below.refl _ _⟩
      case round =>
        obtain ⟨k, rfl, hk, rfl, hb⟩ := hrel
        by_cases hlt : k < xs.length
        · obtain ⟨b, off, rfl, hbB, hcx⟩ := hcells k hlt
          have hb02 := hb12.trans (hb.mono hb12.size)
          have hcx1 := (hb02.cell (p := ⟨b, off + k, none⟩) hbB).trans hcx
          obtain ⟨x, hx⟩ : ∃ x, xs[k] = x := ⟨_, rfl⟩
          rw [hx] at hcx1
          have hstep : lenSum (xs.take (k + 1)) = lenSum (xs.take k) + sLen x := by rw [take_snoc xs k hlt, hx, lenSum_snoc]
          have hlo : 0 ≤ lenSum (xs.take k) ∧ lenSum (xs.take k) ≤ 4000 := by
            have := encAll_len (xs.take k)
            rw [List.length_take] at this
            unfold lenSum
            omega
          have hsl := sLen_lo x
          have HST := Lib.hid hstep
          clear hcells hcx hx hstep hr hr0
          go_wp2_with (go_at_call 19; refine (utf8_Len x _).mono ?_; rintro e w3 ⟨rfl, hb3⟩)
          exact ⟨⟨k + 1, by go_num, by omega, by rw [HST.out], hb.trans (hb3.mono hb.size)⟩, by simp [intOf]; omega⟩
        · obtain rfl : k = xs.length := by omega
          rw [List.take_length, ZT.out]
          have hb02 := hb12.trans (hb.mono hb12.size)
          clear hcells hr
          go_wp2_with fail
          refine (law02_same _ v2 xs xs _ _ (hr0.below hb02 (Nat.le_refl _) |>.mono hb02.size) (Reads.of_own (own_below ho2 hb (Nat.le_refl _)) (by unfold maxLen; omega)) (Nat.le_refl _)).mono ?_
          rw [decide_eq_true (rfl : xs = xs)]
          rintro e w4 ⟨rfl, hb4⟩
          have hb04 := hb02.trans (hb4.mono hb02.size)
          go_wp2_with fail
          refine (utf8_Valid t _ (by omega)).mono ?_
          rw [OT.out]
          rintro e w5 ⟨rfl, hb5⟩
          have hb05 := hb04.trans (hb5.mono hb04.size)
          go_wp2_with fail
          cases okS : okAll (nums s) with
          | true =>
            obtain ⟨hsc1, hsc2⟩ := ok_scal (nums s) (nums_isBs s) okS
            have htx : textS (scalL (nums s)) = s := by rw [textS_yes hsc1, hsc2, strOfNums_nums]
            have hlo : strOfNums (looseN (nums s)) = s := by rw [loose_ok _ (nums_isBs s) okS, strOfNums_nums]
            have hfi := firstN_none (nums s) okS
            obtain ⟨sc, hsc⟩ : ∃ x, scalL (nums s) = x := ⟨_, rfl⟩
            have hscl : sc.length ≤ 4000 := by rw [← hsc]; exact scalL_len s h1
            rw [hsc] at hsc1 htx
            have SC := Lib.hid hsc
            have S1 := Lib.hid hsc1
            have TX := Lib.hid htx
            have LO := Lib.hid hlo
            have FI := Lib.hid hfi
            have OK := Lib.hid okS
            clear hsc hsc1 hsc2 htx hlo hfi okS
            refine (utf8_Scalars s _ (by omega)).mono ?_
            rw [SC.out, OK.out]
            rintro e x1 ⟨v1, rfl, ho1, hx1⟩
            have hy1 := hb05.trans (hx1.mono hb05.size)
            go_wp2_with fail
            refine (utf8_Text v1 sc _ _ (Reads.of_own ho1 (by unfold maxLen; omega)) (Nat.le_refl _) (by omega)).mono ?_
            rw [TX.out, S1.out]
            rintro e x2 ⟨rfl, hx2⟩
            have hy2 := hy1.trans (hx2.mono hy1.size)
            go_wp2_with fail
            refine (utf8_Loose s _ (by omega)).mono ?_
            rw [LO.out, FI.out]
            rintro e x3 ⟨rfl, hx3⟩
            have hy3 := hy2.trans (hx3.mono hy2.size)
            go_wp2_with fail
            refine (utf8_Loose s _ (by omega)).mono ?_
            rw [LO.out, FI.out]
            rintro e x4 ⟨rfl, hx4⟩
            have hy4 := hy3.trans (hx4.mono hy3.size)
            go_wp2_with fail
            refine (utf8_Valid s _ (by omega)).mono ?_
            rw [OK.out]
            rintro e x5 ⟨rfl, hx5⟩
            have hy5 := hy4.trans (hx5.mono hy4.size)
            go_wp2_with fail
            refine (utf8_Valid s _ (by omega)).mono ?_
            rw [OK.out]
            rintro e x6 ⟨rfl, hx6⟩
            have hy6 := hy5.trans (hx6.mono hy5.size)
            go_wp2_with fail
            refine (law02_wakes _).mono ?_
            rintro e x7 ⟨rfl, hx7⟩
            go_wp2
            go_ret
            exact ⟨rfl, hy6.trans (hx7.mono hy6.size)⟩
          | false =>
            have hsc : scalL (nums s) = [] := by unfold scalL; rw [if_neg (by rw [okS]; decide)]
            obtain ⟨lo, hlo⟩ : ∃ x, strOfNums (looseN (nums s)) = x := ⟨_, rfl⟩
            have hnl : nums lo = looseN (nums s) := by rw [← hlo]; exact nums_strOfNums _ (looseN_isBs _)
            have hok2 : okAll (nums lo) = true := by rw [hnl]; exact okAll_loose _ (nums_isBs s)
            have hlo2 : strOfNums (looseN (nums lo)) = lo := by rw [loose_ok _ (nums_isBs lo) hok2, strOfNums_nums]
            have hfi2 := firstN_none (nums lo) hok2
            have hlz : lo.size ≤ 16000 := by
              rw [← hlo, strOfNums_size]
              have := looseN_len (nums s)
              rw [nums_length] at this
              omega
            obtain ⟨n, hn⟩ : ∃ x, firstN (nums s) = x := ⟨_, rfl⟩
            have hn0 : 0 ≤ n := by rw [← hn]; exact firstN_some _ okS
            have hnb : (n == -1) = false := by simp; omega
            have SC := Lib.hid hsc
            have LO := Lib.hid hlo
            have LO2 := Lib.hid hlo2
            have FI := Lib.hid hn
            have FI2 := Lib.hid hfi2
            have OK := Lib.hid okS
            have OK2 := Lib.hid hok2
            clear hsc hlo hnl hok2 hlo2 hfi2 hn okS
            refine (utf8_Scalars s _ (by omega)).mono ?_
            rw [SC.out, OK.out]
            rintro e x1 ⟨v1, rfl, ho1, hx1⟩
            have hy1 := hb05.trans (hx1.mono hb05.size)
            go_wp2_with fail
            refine (utf8_Text v1 [] _ _ (Reads.of_own ho1 (by unfold maxLen; simp)) (Nat.le_refl _) (by simp)).mono ?_
            rintro e x2 ⟨rfl, hx2⟩
            have hy2 := hy1.trans (hx2.mono hy1.size)
            go_wp2_with fail
            refine (utf8_Loose s _ (by omega)).mono ?_
            rw [LO.out, FI.out]
            rintro e x3 ⟨rfl, hx3⟩
            have hy3 := hy2.trans (hx3.mono hy2.size)
            go_wp2_with fail
            refine (utf8_Loose lo _ (by omega)).mono ?_
            rw [LO2.out, FI2.out]
            rintro e x4 ⟨rfl, hx4⟩
            have hy4 := hy3.trans (hx4.mono hy3.size)
            go_wp2_with fail
            refine (utf8_Valid s _ (by omega)).mono ?_
            rw [OK.out]
            rintro e x5 ⟨rfl, hx5⟩
            have hy5 := hy4.trans (hx5.mono hy4.size)
            go_wp2_with fail
            refine (utf8_Valid lo _ (by omega)).mono ?_
            rw [OK2.out]
            rintro e x6 ⟨rfl, hx6⟩
            have hy6 := hy5.trans (hx6.mono hy5.size)
            go_wp2_with fail
            refine (law02_wakes _).mono ?_
            rintro e x7 ⟨rfl, hx7⟩
            go_wp2
            go_ret
            exact ⟨rfl, hy6.trans (hx7.mono hy6.size)⟩
  · unfold maxLen at hl
    by_cases h1 : xs.length ≤ 1000
    · have h2 : 4000 < s.size := by omega
      clear h
      go_enter Try.func8, Try.ntmps8
      go_wp2_with fail
      refine (law02_wakes _).mono ?_
      rintro e w3 ⟨rfl, hb3⟩
      go_wp2
      go_ret
      exact ⟨rfl, hb3⟩
    · clear h
      go_enter Try.func8, Try.ntmps8
      go_wp2_with fail
      refine (law02_wakes _).mono ?_
      rintro e w3 ⟨rfl, hb3⟩
      go_wp2
      go_ret
      exact ⟨rfl, hb3⟩
end Go.Proofs.Ytkkipogldcbokaa
