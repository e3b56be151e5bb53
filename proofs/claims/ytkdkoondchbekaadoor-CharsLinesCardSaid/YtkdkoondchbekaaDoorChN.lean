/-
  The walks of layer 9's statements: CharsNames, CharsLines.
-/
import Derived.Test.YtkdkoondchbekaaDoorChM
namespace Go.Proofs.YtkdkoondchbekaaDoor
open Go.RowKit
set_option maxRecDepth 100000 in
set_option maxHeartbeats 4000000 in
theorem law_CharsNames (a b : ByteArray) (w : World) (m : Int) (hm : MaxAt w m) :
    Calls Tryd.prog 4 #[.string a, .string b] w fun e w' => e = .returned (.bool true) ∧ Below w.heap.size w w' := by
  have HM := Lib.hid hm
  clear hm
  have hB := Below.refl w.heap.size w
  by_cases h : a.size ≤ 300 ∧ b.size ≤ 300
  · obtain ⟨h1, h2⟩ := h
    have hba := nums_isBs a
    have hbb := nums_isBs b
    obtain ⟨X, hX⟩ : ∃ X, a ++ ⟨#[58]⟩ ++ b = X := ⟨_, rfl⟩
    have hnX : nums X = nums a ++ 58 :: nums b := by rw [← hX, nums_join, nums_join, show nums ⟨#[58]⟩ = [58] from rfl]; simp
    have hsX : X.size ≤ 700 := by rw [← hX, join_size, join_size, show (⟨#[58]⟩ : ByteArray).size = 1 from rfl]; omega
    have hns := names_split (nums a) (nums b) hba hbb
    have hsa := split_plain (nums a) hba
    have hta := take_plain (nums a)
    have htX := names_take (nums a) (nums b) hba hbb
    rw [← hnX] at hns htX
    have ea : (a.toList == a.toList) = true := by simp
    have eb : (b.toList == b.toList) = true := by simp
    cases pa : plainN (nums a) with
    | true =>
      have PA := Lib.hid pa
      obtain ⟨_, _, _, _, _, hpa⟩ := plain_enc (nums a) hba pa
      have TA := Lib.hid (show ((takeN (nums a) : Nat) : Int) = a.size by rw [hta hpa, nums_length])
      have SA := Lib.hid (show spOut (nums a) = .tuple #[.string ⟨#[]⟩, .string a, .bool true] by unfold spOut; rw [hsa pa, strOfNums_nums]; rfl)
      cases pb : plainN (nums b) with
      | true =>
        have PB := Lib.hid pb
        have SX := Lib.hid (show spOut (nums X) = .tuple #[.string a, .string b, .bool true] by unfold spOut; rw [hns, pa, pb, if_pos (show (true && true) = true from rfl), strOfNums_nums, strOfNums_nums])
        have TX := Lib.hid (show ((takeN (nums X) : Nat) : Int) = (a.size : Int) + (b.size : Int) + 1 by rw [htX pa pb, nums_length, nums_length]; omega)
        clear pa pb hns hsa hta htX hba hbb hnX hpa
        go_enter Tryd.func4, Tryd.ntmps4
        go_wp2_with fail
        refine (chars_Split X m _ (by omega) (HM.out.below hB)).mono ?_
        rw [SX.out]
        rintro e w1 ⟨rfl, hb1⟩
        replace hB := bt hB hb1
        clear hb1
        go_wp2_with fail
        refine (chars_Plain a _ (by omega)).mono ?_
        rw [PA.out]
        rintro e w1 ⟨rfl, hb1⟩
        replace hB := bt hB hb1
        clear hb1
        go_wp2_with fail
        refine (chars_Plain b _ (by omega)).mono ?_
        rw [PB.out]
        rintro e w1 ⟨rfl, hb1⟩
        replace hB := bt hB hb1
        clear hb1
        go_wp2_with fail
        refine (chars_Take X _ (by omega)).mono ?_
        rw [TX.out]
        rintro e w1 ⟨rfl, hb1⟩
        replace hB := bt hB hb1
        clear hb1
        go_wp2_with fail
        refine (chars_Split a m _ (by omega) (HM.out.below hB)).mono ?_
        rw [SA.out]
        rintro e w1 ⟨rfl, hb1⟩
        replace hB := bt hB hb1
        clear hb1
        go_wp2_with fail
        refine (chars_Plain a _ (by omega)).mono ?_
        rw [PA.out]
        rintro e w1 ⟨rfl, hb1⟩
        replace hB := bt hB hb1
        clear hb1
        go_wp2_with fail
        refine (chars_Take a _ (by omega)).mono ?_
        rw [TA.out]
        rintro e w1 ⟨rfl, hb1⟩
        replace hB := bt hB hb1
        clear hb1
        go_wp2_with (go_at_call 9; refine (law09_wakes m _ (HM.out.below hB)).mono ?_; rintro e w6 ⟨rfl, hb6⟩; replace hB := bt hB hb6; clear hb6)
        go_ret
        exact ⟨rfl, hB⟩
      | false =>
        have PB := Lib.hid pb
        have SX := Lib.hid (show spOut (nums X) = .tuple #[.string ⟨#[]⟩, .string ⟨#[]⟩, .bool false] by unfold spOut; rw [hns, pa, pb, if_neg (by decide)]; rfl)
        clear pa pb hns hsa hta htX hba hbb hnX hpa
        go_enter Tryd.func4, Tryd.ntmps4
        go_wp2_with fail
        refine (chars_Split X m _ (by omega) (HM.out.below hB)).mono ?_
        rw [SX.out]
        rintro e w1 ⟨rfl, hb1⟩
        replace hB := bt hB hb1
        clear hb1
        go_wp2_with fail
        refine (chars_Plain a _ (by omega)).mono ?_
        rw [PA.out]
        rintro e w1 ⟨rfl, hb1⟩
        replace hB := bt hB hb1
        clear hb1
        go_wp2_with fail
        refine (chars_Plain b _ (by omega)).mono ?_
        rw [PB.out]
        rintro e w1 ⟨rfl, hb1⟩
        replace hB := bt hB hb1
        clear hb1
        go_wp2_with fail
        refine (chars_Split a m _ (by omega) (HM.out.below hB)).mono ?_
        rw [SA.out]
        rintro e w1 ⟨rfl, hb1⟩
        replace hB := bt hB hb1
        clear hb1
        go_wp2_with fail
        refine (chars_Plain a _ (by omega)).mono ?_
        rw [PA.out]
        rintro e w1 ⟨rfl, hb1⟩
        replace hB := bt hB hb1
        clear hb1
        go_wp2_with fail
        refine (chars_Take a _ (by omega)).mono ?_
        rw [TA.out]
        rintro e w1 ⟨rfl, hb1⟩
        replace hB := bt hB hb1
        clear hb1
        go_wp2_with (go_at_call 9; refine (law09_wakes m _ (HM.out.below hB)).mono ?_; rintro e w6 ⟨rfl, hb6⟩; replace hB := bt hB hb6; clear hb6)
        go_ret
        exact ⟨rfl, hB⟩
    | false =>
      have PA := Lib.hid pa
      have SX := Lib.hid (show spOut (nums X) = .tuple #[.string ⟨#[]⟩, .string ⟨#[]⟩, .bool false] by unfold spOut; rw [hns, pa, if_neg (by simp)]; rfl)
      obtain ⟨u, hu⟩ : ∃ u, spOut (nums a) = u := ⟨_, rfl⟩
      have hu2 : ∃ x y o, u = .tuple #[.string x, .string y, .bool o] := ⟨_, _, _, hu.symm⟩
      obtain ⟨x, y, o, rfl⟩ := hu2
      have SA := Lib.hid hu
      clear pa hns hsa hta htX hba hbb hnX hu
      go_enter Tryd.func4, Tryd.ntmps4
      go_wp2_with fail
      refine (chars_Split X m _ (by omega) (HM.out.below hB)).mono ?_
      rw [SX.out]
      rintro e w1 ⟨rfl, hb1⟩
      replace hB := bt hB hb1
      clear hb1
      go_wp2_with fail
      refine (chars_Plain a _ (by omega)).mono ?_
      rw [PA.out]
      rintro e w1 ⟨rfl, hb1⟩
      replace hB := bt hB hb1
      clear hb1
      go_wp2_with fail
      refine (chars_Split a m _ (by omega) (HM.out.below hB)).mono ?_
      rw [SA.out]
      rintro e w1 ⟨rfl, hb1⟩
      replace hB := bt hB hb1
      clear hb1
      go_wp2_with fail
      refine (chars_Plain a _ (by omega)).mono ?_
      rw [PA.out]
      rintro e w1 ⟨rfl, hb1⟩
      replace hB := bt hB hb1
      clear hb1
      go_wp2_with (go_at_call 9; refine (law09_wakes m _ (HM.out.below hB)).mono ?_; rintro e w6 ⟨rfl, hb6⟩; replace hB := bt hB hb6; clear hb6)
      go_ret
      exact ⟨rfl, hB⟩
  · go_enter Tryd.func4, Tryd.ntmps4
    go_wp2_with (go_at_call 9; refine (law09_wakes m _ (HM.out.below hB)).mono ?_; rintro e w6 ⟨rfl, hb6⟩; replace hB := bt hB hb6; clear hb6)
    all_goals
      go_ret
      exact ⟨rfl, hB⟩
/-- do a CR and an LF meet? -/
def meetB (a b : List Int) : Bool := decide (a.getLast? = some 13) && decide (b.head? = some 10)
set_option maxRecDepth 100000 in
set_option maxHeartbeats 4000000 in
theorem law_CharsLines (a b : ByteArray) (w : World) (m : Int) (hm : MaxAt w m) :
    Calls Tryd.prog 3 #[.string a, .string b] w fun e w' => e = .returned (.bool true) ∧ Below w.heap.size w w' := by
  have HM := Lib.hid hm
  clear hm
  have hB := Below.refl w.heap.size w
  by_cases h : a.size ≤ 2000 ∧ b.size ≤ 2000
  · obtain ⟨h1, h2⟩ := h
    have hba := nums_isBs a
    obtain ⟨x, hx⟩ : ∃ x, strOfNums (linesN (nums a)) = x := ⟨_, rfl⟩
    have hnx : nums x = linesN (nums a) := by rw [← hx, nums_strOfNums _ (lines_isBs hba)]
    have h13 : 13 ∉ nums x := by rw [hnx]; exact lines_13 _
    have hxa : x.size ≤ a.size := by have := lines_len (nums a); rw [← hnx, nums_length, nums_length] at this; exact this
    have hxx : strOfNums (linesN (nums x)) = x := by rw [lines_id _ h13, strOfNums_nums]
    obtain ⟨X, hX⟩ : ∃ X, a ++ b = X := ⟨_, rfl⟩
    have hsX : X.size ≤ 4000 := by rw [← hX, join_size]; omega
    obtain ⟨z, hz⟩ : ∃ z, strOfNums (linesN (nums b)) = z := ⟨_, rfl⟩
    have hnz : nums z = linesN (nums b) := by rw [← hz, nums_strOfNums _ (lines_isBs (nums_isBs b))]
    have hz2 : z.size ≤ 2000 := by have := lines_len (nums b); rw [← hnz, nums_length, nums_length] at this; omega
    have hx2 : x.size + z.size ≤ 4000 := by omega
    obtain ⟨y, hy⟩ : ∃ y, x ++ z = y := ⟨_, rfl⟩
    have hjoin : ((nums a).getLast? = some 13 → (nums b).head? ≠ some 10) → strOfNums (linesN (nums X)) = y := by
      intro hm
      rw [← hy, ← hX, nums_join, lines_app _ _ hm, ← hnx, ← hnz, ← nums_join, strOfNums_nums]
    have exx : (x.toList == x.toList) = true := by simp
    have eyy : (y.toList == y.toList) = true := by simp
    have LA := Lib.hid hx
    have LX := Lib.hid hxx
    have LB := Lib.hid hz
    have LJ := Lib.hid hjoin
    have H13 := Lib.hid h13
    have hcv := fun w => Lib.run_convert_string_bytes (P := Tryd.prog) w 9 24 5 x Tryd.underlying9 Tryd.underlying24 Tryd.underlying5
    have HCV := Lib.hid hcv
    clear hx hxx hz hnz hjoin h13 hnx hba hcv
    go_enter Tryd.func3, Tryd.ntmps3
    go_wp2_with fail
    refine (chars_Lines a m _ (by omega) (HM.out.below hB)).mono ?_
    rw [LA.out]
    rintro e w1 ⟨rfl, hb1⟩
    replace hB := bt hB hb1
    clear hb1
    have hcv := HCV.out w1
    have hrow := LowRow.made w1 5 x
    have hbl := bt hB (bytes_below w1 5 x)
    obtain ⟨cap, hcap⟩ : ∃ cap, grownCap w1 x.size 0 5 = cap := ⟨_, rfl⟩
    obtain ⟨w2, hw2⟩ : ∃ w2, Lib.bytesWorld w1 5 x = w2 := ⟨_, rfl⟩
    rw [hcap, hw2] at hcv
    rw [hw2] at hrow hbl
    clear hw2 hcap
    obtain ⟨p, hp⟩ : ∃ p, w1.heap.size = p := ⟨_, rfl⟩
    rw [hp] at hcv hrow
    clear hp hB
    have hB := hbl
    clear hbl
    go_wp2
    go_loop [23] (fun i => ∃ k : Nat, i = .int .i64 k ∧ k ≤ x.size) (fun i => x.size - (intOf i).toNat)
    case atStart => exact ⟨0, rfl, by omega⟩
    case round =>
      obtain ⟨k, rfl, hk⟩ := hrel
      by_cases hlt : k < x.size
      · have hca := hrow.cellAt k (by rw [nums_length]; exact hlt)
        obtain ⟨c, hc⟩ : ∃ c : Int, (nums x)[k]'(by rw [nums_length]; exact hlt) = c := ⟨_, rfl⟩
        rw [hc] at hca
        have hc13 : (c == 13) = false := by
          have : ¬ c = 13 := fun e => H13.out (by rw [← e, ← hc]; exact List.getElem_mem _)
          simpa using this
        clear hc
        go_wp2
        exact ⟨⟨k + 1, by go_num, by omega⟩, by simp [intOf]; omega⟩
      · go_wp2_with fail
        refine (chars_Lines x m _ (by omega) (HM.out.below hB)).mono ?_
        rw [LX.out]
        rintro e w1 ⟨rfl, hb1⟩
        replace hB := bt hB hb1
        clear hb1
        by_cases ha0 : a.size = 0
        · have hd0 : ¬ 0 < a.size := by omega
          have HJ := Lib.hid (LJ.out (by intro e; rw [nums_nil ha0] at e; cases e))
          clear ha0
          go_wp2_with fail
          refine (chars_Lines X m _ (by omega) (HM.out.below hB)).mono ?_
          rw [HJ.out]
          rintro e w1 ⟨rfl, hb1⟩
          replace hB := bt hB hb1
          clear hb1
          go_wp2_with fail
          refine (chars_Lines b m _ (by omega) (HM.out.below hB)).mono ?_
          rw [LB.out]
          rintro e w1 ⟨rfl, hb1⟩
          replace hB := bt hB hb1
          clear hb1
          go_wp2_with (go_at_call 9; refine (law09_wakes m _ (HM.out.below hB)).mono ?_; rintro e w6 ⟨rfl, hb6⟩; replace hB := bt hB hb6; clear hb6)
          go_ret
          exact ⟨rfl, hB⟩
        · have hd0 : 0 < a.size := by omega
          by_cases hb0 : b.size = 0
          · have hd1 : ¬ 0 < b.size := by omega
            have HJ := Lib.hid (LJ.out (by intro _ e; rw [nums_nil hb0] at e; cases e))
            clear ha0 hb0
            go_wp2_with fail
            refine (chars_Lines X m _ (by omega) (HM.out.below hB)).mono ?_
            rw [HJ.out]
            rintro e w1 ⟨rfl, hb1⟩
            replace hB := bt hB hb1
            clear hb1
            go_wp2_with fail
            refine (chars_Lines b m _ (by omega) (HM.out.below hB)).mono ?_
            rw [LB.out]
            rintro e w1 ⟨rfl, hb1⟩
            replace hB := bt hB hb1
            clear hb1
            go_wp2_with (go_at_call 9; refine (law09_wakes m _ (HM.out.below hB)).mono ?_; rintro e w6 ⟨rfl, hb6⟩; replace hB := bt hB hb6; clear hb6)
            go_ret
            exact ⟨rfl, hB⟩
          · have hd1 : 0 < b.size := by omega
            obtain ⟨c, hc⟩ : ∃ c : Int, (a[a.size - 1].toNat : Int) = c := ⟨_, rfl⟩
            obtain ⟨d, hd⟩ : ∃ d : Int, (b[0].toNat : Int) = d := ⟨_, rfl⟩
            have hix := index_str a (a.size - 1) (by omega) c ((a.size : Int) - 1) hc (by omega)
            have hiy := index_str b 0 (by omega) d 0 hd rfl
            have hgl : (nums a).getLast? = some c := by
              rw [List.getLast?_eq_getElem?, nums_length, List.getElem?_eq_getElem (by rw [nums_length]; omega), nums_at a (a.size - 1) (by omega), hc]
            have hhd : (nums b).head? = some d := by
              rw [List.head?_eq_getElem?, List.getElem?_eq_getElem (by rw [nums_length]; omega), nums_at b 0 (by omega), hd]
            clear hc hd
            by_cases h13 : c = 13
            · have hq1 : (c == 13) = true := by simpa using h13
              by_cases h10 : d = 10
              · have hq2 : (d == 10) = true := by simpa using h10
                clear hgl hhd h13 h10 ha0 hb0
                go_wp2_with (go_at_call 9; refine (law09_wakes m _ (HM.out.below hB)).mono ?_; rintro e w6 ⟨rfl, hb6⟩; replace hB := bt hB hb6; clear hb6)
                go_ret
                exact ⟨rfl, hB⟩
              · have hq2 : (d == 10) = false := by simpa using h10
                have HJ := Lib.hid (LJ.out (by intro _ e; rw [hhd] at e; exact h10 (Option.some.inj e)))
                clear hgl hhd h13 h10 ha0 hb0
                go_wp2_with fail
                refine (chars_Lines X m _ (by omega) (HM.out.below hB)).mono ?_
                rw [HJ.out]
                rintro e w1 ⟨rfl, hb1⟩
                replace hB := bt hB hb1
                clear hb1
                go_wp2_with fail
                refine (chars_Lines b m _ (by omega) (HM.out.below hB)).mono ?_
                rw [LB.out]
                rintro e w1 ⟨rfl, hb1⟩
                replace hB := bt hB hb1
                clear hb1
                go_wp2_with (go_at_call 9; refine (law09_wakes m _ (HM.out.below hB)).mono ?_; rintro e w6 ⟨rfl, hb6⟩; replace hB := bt hB hb6; clear hb6)
                go_ret
                exact ⟨rfl, hB⟩
            · have hq1 : (c == 13) = false := by simpa using h13
              have HJ := Lib.hid (LJ.out (by intro e; rw [hgl] at e; exact absurd (Option.some.inj e) h13))
              clear hgl hhd h13 ha0 hb0
              go_wp2_with fail
              refine (chars_Lines X m _ (by omega) (HM.out.below hB)).mono ?_
              rw [HJ.out]
              rintro e w1 ⟨rfl, hb1⟩
              replace hB := bt hB hb1
              clear hb1
              go_wp2_with fail
              refine (chars_Lines b m _ (by omega) (HM.out.below hB)).mono ?_
              rw [LB.out]
              rintro e w1 ⟨rfl, hb1⟩
              replace hB := bt hB hb1
              clear hb1
              go_wp2_with (go_at_call 9; refine (law09_wakes m _ (HM.out.below hB)).mono ?_; rintro e w6 ⟨rfl, hb6⟩; replace hB := bt hB hb6; clear hb6)
              go_ret
              exact ⟨rfl, hB⟩
  · go_enter Tryd.func3, Tryd.ntmps3
    go_wp2_with (go_at_call 9; refine (law09_wakes m _ (HM.out.below hB)).mono ?_; rintro e w6 ⟨rfl, hb6⟩; replace hB := bt hB hb6; clear hb6)
    all_goals
      go_ret
      exact ⟨rfl, hB⟩
end Go.Proofs.YtkdkoondchbekaaDoor
