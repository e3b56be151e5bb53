/-
  The walk of layer 7's statement DeclareFirst.
-/
import Derived.Test.YtaheooedcjjckaaDeL
namespace Go.Proofs.Ytaheooedcjjckaa
open Go.RowKit
theorem nums_app7 (x y : ByteArray) : nums (x ++ y) = nums x ++ nums y := by simp [nums, ByteArray.data_append]
set_option maxHeartbeats 2000000 in
theorem law_DeclareFirst (b d : ByteArray) (w : World) (m : Int) (hm : MaxAt w m) :
    Calls Try.prog 4 #[.string b, .string d] w fun e w' => e = .returned (.bool true) ∧ Below w.heap.size w w' := by
  have HW := Lib.hid (fun (u : World) (h : MaxAt u m) => law07_wakes u m h)
  have HM := Lib.hid hm
  clear hm
  have hB := Below.refl w.heap.size w
  by_cases hbig : 2000 < b.size
  · go_enter Try.func4, Try.ntmps4
    go_wp2_with (go_at_call 7; refine (HW.out _ (HM.out.below hB)).mono ?_; rintro e w' ⟨rfl, hb1⟩; replace hB := bt hB hb1)
    go_ret
    exact ⟨rfl, hB⟩
  by_cases hbig2 : 2000 < d.size
  · go_enter Try.func4, Try.ntmps4
    go_wp2_with (go_at_call 7; refine (HW.out _ (HM.out.below hB)).mono ?_; rintro e w' ⟨rfl, hb1⟩; replace hB := bt hB hb1)
    go_ret
    exact ⟨rfl, hB⟩
  obtain ⟨F, nF, hcase⟩ : ∃ F, nums F = (nums b).take 200 ∧ ((b.size ≤ 200 ∧ F = b) ∨ (200 < b.size ∧ b.extract 0 200 = F)) := by
    by_cases h : b.size ≤ 200
    · exact ⟨b, by rw [List.take_of_length_le (by rw [nums_length]; omega)], .inl ⟨h, rfl⟩⟩
    · exact ⟨_, by rw [nums_extD, List.drop_zero], .inr ⟨by omega, rfl⟩⟩
  have lF : F.size ≤ b.size := by rw [← nums_length, nF, List.length_take, nums_length]; omega
  have hpF : partsD (nums F) = partsD (nums b) := by rw [nF, partsD_front]
  obtain ⟨zs, hzs⟩ : ∃ x, partsD (nums b) = x := ⟨_, rfl⟩
  have hzl : zs.length ≤ b.size := by rw [← hzs]; exact partsD_len b
  obtain ⟨X, hX⟩ : ∃ X, b ++ d = X := ⟨_, rfl⟩
  have hXs : X.size = b.size + d.size := by rw [← hX, ByteArray.size_append]
  have hbd : b.size + d.size ≤ 50000000 := by omega
  have A1 := Lib.hid (fun u hu => by have h := declare_Parts b (by omega) u m hu; rw [hzs] at h; exact h)
  have A2 := Lib.hid (fun u hu => by have h := declare_Scan b (by omega) u m hu; rw [hzs] at h; exact h)
  have A3 := Lib.hid (fun u hu => by have h := declare_Parts F (by omega) u m hu; rw [hpF, hzs] at h; exact h)
  have S1 := Lib.hid (fun u (va vb : Value) (b1 b2 : Nat) h1 h2 => ref07_Same u b1 b2 va vb zs h1 h2 (by omega))
  by_cases hz0 : zs = []
  · have hsc : scnV zs = (⟨#[]⟩, false) := by rw [hz0]; rfl
    rw [hsc] at A2
    have hzl0 : zs.length = 0 := by rw [hz0]; rfl
    clear hX hXs nF hpF hzs hsc hz0
    rcases hcase with ⟨hs2, rfl⟩ | ⟨hs2, hF⟩
    all_goals
      go_enter Try.func4, Try.ntmps4
      go_wp2_with fail
      refine (A1.out _ (HM.out.below hB)).mono ?_
      rintro e w1 ⟨va, rfl, hra, hb1⟩
      replace hB := bt hB hb1
      go_wp2_with fail
      refine (A2.out _ (HM.out.below hB)).mono ?_
      rintro e w2 ⟨rfl, hb2⟩
      replace hB := bt hB hb2
      have hra := own_below hra hb2 (Nat.le_refl _)
      go_wp2_with fail
      refine (A3.out _ (HM.out.below hB)).mono ?_
      rintro e w3 ⟨vb, rfl, hrb, hb3⟩
      replace hB := bt hB hb3
      have hra := own_below hra hb3 (Nat.le_refl _)
      have HS := Lib.hid (S1.out w3 va vb _ _ hra hrb)
      obtain ⟨a, cp, rfl, -⟩ := own_form hra
      clear hrb
      rw [hzl0] at HS
      rw [hzl0]
      go_wp2_with fail
      refine HS.out.mono ?_
      rintro e w4 ⟨rfl, hb4⟩
      replace hB := bt hB hb4
      go_wp2_with fail
      refine (HW.out _ (HM.out.below hB)).mono ?_
      rintro e w5 ⟨rfl, hb5⟩
      go_wp2
      go_ret
      exact ⟨rfl, bt hB hb5⟩
  · have hzp : (0 : Int) < (zs.length : Int) := by
      have : 0 < zs.length := List.length_pos_iff.2 hz0
      omega
    have hpX : partsD (nums X) = zs := by
      rw [← hX, nums_app7, partsD_more _ _ (by rw [hzs]; exact hz0), hzs]
    obtain ⟨q1, q2, hsc⟩ : ∃ x y, scnV zs = (x, y) := ⟨_, _, rfl⟩
    rw [hsc] at A2
    have A4 := Lib.hid (fun u hu => by have h := declare_Scan X (by omega) u m hu; rw [hpX, hsc] at h; exact h)
    have A5 := Lib.hid (fun u hu => by have h := declare_Parts X (by omega) u m hu; rw [hpX] at h; exact h)
    have hq1 : (q1.toList == q1.toList) = true := by simp
    have hq2 : (q2 == q2) = true := by simp
    clear hXs nF hpF hzs hsc hz0 hpX
    rcases hcase with ⟨hs2, rfl⟩ | ⟨hs2, hF⟩
    all_goals
      go_enter Try.func4, Try.ntmps4
      go_wp2_with fail
      refine (A1.out _ (HM.out.below hB)).mono ?_
      rintro e w1 ⟨va, rfl, hra, hb1⟩
      replace hB := bt hB hb1
      go_wp2_with fail
      refine (A2.out _ (HM.out.below hB)).mono ?_
      rintro e w2 ⟨rfl, hb2⟩
      replace hB := bt hB hb2
      have hra := own_below hra hb2 (Nat.le_refl _)
      go_wp2_with fail
      refine (A3.out _ (HM.out.below hB)).mono ?_
      rintro e w3 ⟨vb, rfl, hrb, hb3⟩
      replace hB := bt hB hb3
      have hra := own_below hra hb3 (Nat.le_refl _)
      have HS := Lib.hid (S1.out w3 va vb _ _ hra hrb)
      have HRA := Lib.hid (fun (u : World) (hu : Below w3.heap.size w3 u) => own_below hra hu (Nat.le_refl _))
      obtain ⟨a, cp, rfl, -⟩ := own_form hra
      clear hrb hra
      go_wp2_with fail
      refine HS.out.mono ?_
      rintro e w4 ⟨rfl, hb4⟩
      replace hB := bt hB hb4
      go_wp2_with fail
      refine (A4.out _ (HM.out.below hB)).mono ?_
      rintro e w5 ⟨rfl, hb5⟩
      replace hB := bt hB hb5
      go_wp2_with fail
      refine (A5.out _ (HM.out.below hB)).mono ?_
      rintro e w6 ⟨vc, rfl, hrc, hb6⟩
      replace hB := bt hB hb6
      have HS2 := Lib.hid (S1.out w6 _ vc _ _ (HRA.out w6 (bt (bt hb4 hb5) hb6)) hrc)
      clear hrc
      go_wp2_with fail
      refine HS2.out.mono ?_
      rintro e w7 ⟨rfl, hb7⟩
      replace hB := bt hB hb7
      go_wp2_with fail
      refine (HW.out _ (HM.out.below hB)).mono ?_
      rintro e w8 ⟨rfl, hb8⟩
      go_wp2
      go_ret
      exact ⟨rfl, bt hB hb8⟩
end Go.Proofs.Ytaheooedcjjckaa
