/-
  The walks of layer 9's statements: CharsCut, CharsNames, CharsLines.
-/
import Derived.Test.YtkdkoondchbekaaDoorChL
namespace Go.Proofs.YtkdkoondchbekaaDoor
open Go.RowKit
theorem nums_join (a b : ByteArray) : nums (a ++ b) = nums a ++ nums b := by unfold nums; simp [ByteArray.data_append]
theorem join_size (a b : ByteArray) : (a ++ b).size = a.size + b.size := by simp
set_option maxRecDepth 100000 in
set_option maxHeartbeats 4000000 in
theorem law_CharsCut (s : ByteArray) (w : World) (m : Int) (hm : MaxAt w m) :
    Calls Tryd.prog 5 #[.string s] w fun e w' => e = .returned (.bool true) ∧ Below w.heap.size w w' := by
  have HM := Lib.hid hm
  clear hm
  have hB := Below.refl w.heap.size w
  by_cases h : s.size ≤ 2000
  · have hbs := nums_isBs s
    have htc := take_cut (nums s) hbs
    have hth : takeN (nums s) ≤ s.size := by have := front_hi tkB (nums s); rw [nums_length] at this; exact this
    have htb := take_bad (nums s)
    obtain ⟨k, hk⟩ : ∃ k, takeN (nums s) = k := ⟨_, rfl⟩
    rw [hk] at htc hth htb
    have hfk := nums_front s k
    rw [← hfk] at htc
    have TC := Lib.hid htc
    have T := Lib.hid hk
    have hks : (s.extract 0 k).size ≤ 2000 := Nat.le_trans (ext_size _ _ _) h
    clear htc hk hfk
    have d1 : decide ((k : Int) < 0) = false := decide_eq_false (by omega)
    have hk2 : (k : Int) ≤ (s.size : Int) := by omega
    by_cases hn : badN (nums s) = -1
    · have N := Lib.hid hn
      have O := Lib.hid (bad_ok _ hn)
      clear hn htb
      go_enter Tryd.func5, Tryd.ntmps5
      go_wp2_with fail
      refine (chars_Bad s _ (by omega)).mono ?_
      rw [N.out]
      rintro e w1 ⟨rfl, hb1⟩
      replace hB := bt hB hb1
      clear hb1
      go_wp2_with fail
      refine (chars_Take s _ (by omega)).mono ?_
      rw [T.out]
      rintro e w2 ⟨rfl, hb2⟩
      replace hB := bt hB hb2
      clear hb2
      go_wp2_with fail
      refine (ref02_Valid s _ (by omega)).mono ?_
      rw [O.out]
      rintro e w3 ⟨rfl, hb3⟩
      replace hB := bt hB hb3
      clear hb3
      go_wp2_with fail
      refine (chars_Take _ _ (Nat.le_trans hks (by decide))).mono ?_
      rw [TC.out]
      rintro e w4 ⟨rfl, hb4⟩
      replace hB := bt hB hb4
      clear hb4
      go_wp2_with (go_at_call 9; refine (law09_wakes m _ (HM.out.below hB)).mono ?_; rintro e w6 ⟨rfl, hb6⟩; replace hB := bt hB hb6; clear hb6)
      go_ret
      exact ⟨rfl, hB⟩
    · obtain ⟨hc1, hc2⟩ := bad_cut _ hbs hn
      have hnk := htb hn
      have hlt := badN_lt (nums s)
      have hlo : -1 ≤ badN (nums s) := by unfold badN; split <;> omega
      have hne : nums s ≠ [] := by intro e; rw [e] at hn; exact hn rfl
      obtain ⟨j, hj⟩ : ∃ j : Nat, badN (nums s) = j := ⟨(badN (nums s)).toNat, by omega⟩
      rw [hj, Int.toNat_natCast, ← nums_front] at hc1
      rw [hj, Int.toNat_natCast, ← nums_back] at hc2
      rw [hj] at hnk
      have hjs : j < s.size := by rw [hj, nums_length] at hlt; have := hlt.resolve_right hne; omega
      have C1 := Lib.hid hc1
      have C2 := Lib.hid hc2
      have N := Lib.hid hj
      have hs1 : (s.extract 0 j).size ≤ 2000 := Nat.le_trans (ext_size _ _ _) h
      have hs2 : (s.extract j s.size).size ≤ 2000 := Nat.le_trans (ext_size _ _ _) h
      clear hn hj hc1 hc2 hlt hlo hne htb
      have d2 : decide ((j : Int) < 0) = false := decide_eq_false (by omega)
      go_enter Tryd.func5, Tryd.ntmps5
      go_wp2_with fail
      refine (chars_Bad s _ (by omega)).mono ?_
      rw [N.out]
      rintro e w1 ⟨rfl, hb1⟩
      replace hB := bt hB hb1
      clear hb1
      go_wp2_with fail
      refine (chars_Take s _ (by omega)).mono ?_
      rw [T.out]
      rintro e w2 ⟨rfl, hb2⟩
      replace hB := bt hB hb2
      clear hb2
      go_wp2_with fail
      refine (chars_Bad _ _ (Nat.le_trans hs1 (by decide))).mono ?_
      rw [C1.out]
      rintro e w3 ⟨rfl, hb3⟩
      replace hB := bt hB hb3
      clear hb3
      go_wp2_with fail
      refine (chars_Bad _ _ (Nat.le_trans hs2 (by decide))).mono ?_
      rw [C2.out]
      rintro e w3 ⟨rfl, hb3⟩
      replace hB := bt hB hb3
      clear hb3
      go_wp2_with fail
      refine (chars_Take _ _ (Nat.le_trans hks (by decide))).mono ?_
      rw [TC.out]
      rintro e w4 ⟨rfl, hb4⟩
      replace hB := bt hB hb4
      clear hb4
      go_wp2_with (go_at_call 9; refine (law09_wakes m _ (HM.out.below hB)).mono ?_; rintro e w6 ⟨rfl, hb6⟩; replace hB := bt hB hb6; clear hb6)
      go_ret
      exact ⟨rfl, hB⟩
  · go_enter Tryd.func5, Tryd.ntmps5
    go_wp2_with (go_at_call 9; refine (law09_wakes m _ (HM.out.below hB)).mono ?_; rintro e w6 ⟨rfl, hb6⟩; replace hB := bt hB hb6; clear hb6)
    go_ret
    exact ⟨rfl, hB⟩
end Go.Proofs.YtkdkoondchbekaaDoor
