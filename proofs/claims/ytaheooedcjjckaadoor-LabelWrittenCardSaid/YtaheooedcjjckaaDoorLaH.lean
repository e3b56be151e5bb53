/-
  The walks of layer 5's statements LabelTells, LabelTrim.
-/
import Derived.Test.YtaheooedcjjckaaDoorLaG
namespace Go.Proofs.YtaheooedcjjckaaDoor
open Go.RowKit
set_option maxHeartbeats 1000000 in
theorem law_LabelTells (s : ByteArray) (enc : Int) (w : World) (ht : TabAt w) :
    Calls Tryd.prog 3 #[.string s, .int .i8 enc] w fun e w' => e = .returned (.bool true) ∧ Below w.heap.size w w' := by
  have HW := Lib.hid (fun (u : World) (h : TabAt u) => law05_wakes u h)
  have HM := Lib.hid ht
  clear ht
  have hB := Below.refl w.heap.size w
  by_cases hbig : 300 < s.size
  · go_enter Tryd.func3, Tryd.ntmps3
    go_wp2_with (go_at_call 7; refine (HW.out _ (HM.out.below hB)).mono ?_; rintro e w' ⟨rfl, hb1⟩; replace hB := bt hB hb1)
    go_ret
    exact ⟨rfl, hB⟩
  obtain ⟨o1, o2, ho⟩ : ∃ x y, ofS (wantS s) = (x, y) := ⟨_, _, rfl⟩
  obtain ⟨N, hN⟩ : ∃ x, namS enc = x := ⟨_, rfl⟩
  obtain ⟨T, hT⟩ : ∃ x, trimS s = x := ⟨_, rfl⟩
  obtain ⟨L, hL⟩ : ∃ x, strOfNums (lowL (nums s)) = x := ⟨_, rfl⟩
  have hll := labL_len enc
  obtain ⟨A, hA⟩ : ∃ x, labL enc = x := ⟨_, rfl⟩
  rw [hA] at hll
  have A1 := Lib.hid (fun u hu => by have h := label_Of s (by omega) u hu; rw [ho] at h; exact h)
  have A2 := Lib.hid (fun u => by have h := ref05_Of s (by omega) u; rw [ho] at h; exact h)
  have A3 := Lib.hid (fun u hu => by have h := label_Name enc u hu; rw [hN] at h; exact h)
  have A4 := Lib.hid (fun u => by have h := ref05_Name enc u; rw [hN] at h; exact h)
  have A5 := Lib.hid (fun u hu => by have h := label_All enc u hu; rw [hA] at h; exact h)
  have A6 := Lib.hid (fun u => by have h := ref05_All enc u; rw [hA] at h; exact h)
  have A7 := Lib.hid (fun u => by have h := label_Trim s u (by omega); rw [hT] at h; exact h)
  have A8 := Lib.hid (fun u => by have h := ref05_Trim s u (by omega); rw [hT] at h; exact h)
  have A9 := Lib.hid (fun u => by have h := label_Lower s u (by omega); rw [hL] at h; exact h)
  have A0 := Lib.hid (fun u => by have h := ref05_Lower s u (by omega); rw [hL] at h; exact h)
  have q1 : (N.toList == N.toList) = true := by simp
  have q2 : (T.toList == T.toList) = true := by simp
  have q3 : (L.toList == L.toList) = true := by simp
  have q4 : (o2 == o2) = true := by simp
  clear ho hN hT hL hA
  go_enter Tryd.func3, Tryd.ntmps3
  go_wp2_with fail
  refine (A1.out _ (HM.out.below hB)).mono ?_
  rintro e w1 ⟨rfl, hb1⟩
  replace hB := bt hB hb1
  go_wp2_with fail
  refine (A2.out _).mono ?_
  rintro e w2 ⟨rfl, hb2⟩
  replace hB := bt hB hb2
  go_wp2_with fail
  refine (A3.out _ (HM.out.below hB)).mono ?_
  rintro e w3 ⟨rfl, hb3⟩
  replace hB := bt hB hb3
  go_wp2_with fail
  refine (A4.out _).mono ?_
  rintro e w4 ⟨rfl, hb4⟩
  replace hB := bt hB hb4
  go_wp2_with fail
  refine (A5.out _ (HM.out.below hB)).mono ?_
  rintro e w5 ⟨va, rfl, hra, hb5⟩
  replace hB := bt hB hb5
  go_wp2_with fail
  refine (A6.out _).mono ?_
  rintro e w6 ⟨vb, rfl, hrb, hb6⟩
  replace hB := bt hB hb6
  have HT := Lib.hid (ref05_Texts w6 w6.heap.size va vb A ((hra.below hb6 (Nat.le_refl _)).mono hb6.size) hrb (by omega))
  clear hra hrb
  go_wp2_with fail
  refine HT.out.mono ?_
  rintro e w7 ⟨rfl, hb7⟩
  replace hB := bt hB hb7
  go_wp2_with fail
  refine (A7.out _).mono ?_
  rintro e w8 ⟨rfl, hb8⟩
  replace hB := bt hB hb8
  go_wp2_with fail
  refine (A8.out _).mono ?_
  rintro e w' ⟨rfl, rfl⟩
  go_wp2_with fail
  refine (A9.out _).mono ?_
  rintro e w9 ⟨rfl, hb9⟩
  replace hB := bt hB hb9
  go_wp2_with fail
  refine (A0.out _).mono ?_
  rintro e w10 ⟨rfl, hb10⟩
  replace hB := bt hB hb10
  go_wp2_with fail
  refine (HW.out _ (HM.out.below hB)).mono ?_
  rintro e w11 ⟨rfl, hb11⟩
  go_wp2
  go_ret
  exact ⟨rfl, bt hB hb11⟩
set_option maxHeartbeats 1000000 in
theorem law_LabelTrim (s : ByteArray) (w : World) (ht : TabAt w) :
    Calls Tryd.prog 6 #[.string s] w fun e w' => e = .returned (.bool true) ∧ Below w.heap.size w w' := by
  have HW := Lib.hid (fun (u : World) (h : TabAt u) => law05_wakes u h)
  have HM := Lib.hid ht
  clear ht
  have hB := Below.refl w.heap.size w
  by_cases hbig : 300 < s.size
  · go_enter Tryd.func6, Tryd.ntmps6
    go_wp2_with (go_at_call 7; refine (HW.out _ (HM.out.below hB)).mono ?_; rintro e w' ⟨rfl, hb1⟩; replace hB := bt hB hb1)
    go_ret
    exact ⟨rfl, hB⟩
  have ts := trimS_size s
  have ls := lowS_size s
  have tt := trimS_trimS s
  have ll := lowS_lowS s
  have tl := trimS_lowS s
  obtain ⟨T, hT⟩ : ∃ x, trimS s = x := ⟨_, rfl⟩
  obtain ⟨L, hL⟩ : ∃ x, lowS s = x := ⟨_, rfl⟩
  obtain ⟨X, hX⟩ : ∃ x, lowS T = x := ⟨_, rfl⟩
  rw [hT] at ts tt tl
  rw [hL] at ls ll tl
  rw [hX] at tl
  have A1 := Lib.hid (fun u => by have h := label_Trim s u (by omega); rw [hT] at h; exact h)
  have A2 := Lib.hid (fun u => by have h := label_Lower s u (by omega); rw [show strOfNums (lowL (nums s)) = L from hL] at h; exact h)
  have A3 := Lib.hid (fun u => by have h := label_Trim T u (by omega); rw [tt] at h; exact h)
  have A4 := Lib.hid (fun u => by have h := label_Lower L u (by omega); rw [show strOfNums (lowL (nums L)) = L from ll] at h; exact h)
  have A5 := Lib.hid (fun u => by have h := label_Trim L u (by omega); rw [tl] at h; exact h)
  have A6 := Lib.hid (fun u => by have h := label_Lower T u (by omega); rw [show strOfNums (lowL (nums T)) = X from hX] at h; exact h)
  have q1 : (T.toList == T.toList) = true := by simp
  have q2 : (L.toList == L.toList) = true := by simp
  have q3 : (X.toList == X.toList) = true := by simp
  have q4 : ((L.size : Int) == (s.size : Int)) = true := by rw [ls]; simp
  have q5 : (T.size : Int) ≤ (s.size : Int) := by omega
  clear ls tt ll tl hT hL hX
  go_enter Tryd.func6, Tryd.ntmps6
  go_wp2_with fail
  refine (A1.out _).mono ?_
  rintro e w1 ⟨rfl, hb1⟩
  replace hB := bt hB hb1
  go_wp2_with fail
  refine (A2.out _).mono ?_
  rintro e w2 ⟨rfl, hb2⟩
  replace hB := bt hB hb2
  go_wp2_with fail
  refine (A3.out _).mono ?_
  rintro e w3 ⟨rfl, hb3⟩
  replace hB := bt hB hb3
  go_wp2_with fail
  refine (A4.out _).mono ?_
  rintro e w4 ⟨rfl, hb4⟩
  replace hB := bt hB hb4
  go_wp2_with fail
  refine (A5.out _).mono ?_
  rintro e w5 ⟨rfl, hb5⟩
  replace hB := bt hB hb5
  go_wp2_with fail
  refine (A6.out _).mono ?_
  rintro e w6 ⟨rfl, hb6⟩
  replace hB := bt hB hb6
  go_wp2_with fail
  refine (HW.out _ (HM.out.below hB)).mono ?_
  rintro e w7 ⟨rfl, hb7⟩
  go_wp2
  go_ret
  exact ⟨rfl, bt hB hb7⟩
end Go.Proofs.YtaheooedcjjckaaDoor
