/-
  The walks of layer 7's statements DeclareTells, DeclareFirst, DeclareApart; the law's own waking.
-/
import Derived.Test.YtaheooedcjjckaaDeK
namespace Go.Proofs.Ytaheooedcjjckaa
open Go.RowKit
theorem wkD1 : scnV (partsD (nums ⟨#[60, 63, 120, 109, 108, 32, 118, 101, 114, 115, 105, 111, 110, 61, 34, 49, 46, 48, 34, 32, 101, 110, 99, 111, 100, 105, 110, 103, 61, 39, 108, 97, 116, 105, 110, 49, 39, 63, 62]⟩)) = (⟨#[108, 97, 116, 105, 110, 49]⟩, true) := by kernel_rfl
theorem wkD2 : scnV (partsD (nums ⟨#[60, 63, 120, 109, 108, 32, 101, 110, 99, 111, 100, 105, 110, 103, 61, 108, 97, 116, 105, 110, 49, 63, 62]⟩)) = (⟨#[]⟩, false) := by kernel_rfl
theorem wkD3 : mrkV (nums ⟨#[254, 255, 0, 60]⟩) = (2, 2, true) := by kernel_rfl
theorem wkD4 : shpV (nums ⟨#[0, 60, 0, 63]⟩) = (2, true) := by kernel_rfl
theorem wkD5 : cutS ⟨#[239, 187, 191, 97]⟩ = ⟨#[97]⟩ := by kernel_rfl
theorem law07_wakes (w : World) (m : Int) (hm : MaxAt w m) : Calls Try.prog 7 #[] w fun e w' => e = .returned (.bool true) ∧ Below w.heap.size w w' := by
  have H1 := Lib.hid (fun u hu => by have h := declare_Scan ⟨#[60, 63, 120, 109, 108, 32, 118, 101, 114, 115, 105, 111, 110, 61, 34, 49, 46, 48, 34, 32, 101, 110, 99, 111, 100, 105, 110, 103, 61, 39, 108, 97, 116, 105, 110, 49, 39, 63, 62]⟩ (by decide) u m hu; rw [wkD1] at h; exact h)
  have H2 := Lib.hid (fun u hu => by have h := declare_Scan ⟨#[60, 63, 120, 109, 108, 32, 101, 110, 99, 111, 100, 105, 110, 103, 61, 108, 97, 116, 105, 110, 49, 63, 62]⟩ (by decide) u m hu; rw [wkD2] at h; exact h)
  have H3 := Lib.hid (fun u => by have h := declare_Mark ⟨#[254, 255, 0, 60]⟩ u; rw [wkD3] at h; exact h)
  have H4 := Lib.hid (fun u => by have h := declare_Shape ⟨#[0, 60, 0, 63]⟩ u; rw [wkD4] at h; exact h)
  have H5 := Lib.hid (fun u => by have h := declare_Cut ⟨#[239, 187, 191, 97]⟩ u; rw [wkD5] at h; exact h)
  have hB := Below.refl w.heap.size w
  go_enter Try.func7, Try.ntmps7
  go_wp2_with fail
  refine (H1.out _ hm).mono ?_
  rintro e w1 ⟨rfl, hb1⟩
  replace hB := bt hB hb1
  go_wp2_with fail
  refine (H2.out _ (hm.below hB)).mono ?_
  rintro e w2 ⟨rfl, hb2⟩
  replace hB := bt hB hb2
  go_wp2_with fail
  refine (H3.out _).mono ?_
  rintro e w3 ⟨rfl, hb3⟩
  replace hB := bt hB hb3
  go_wp2_with fail
  refine (H4.out _).mono ?_
  rintro e w4 ⟨rfl, hb4⟩
  replace hB := bt hB hb4
  go_wp2_with fail
  refine (H5.out _).mono ?_
  rintro e w5 ⟨rfl, hb5⟩
  replace hB := bt hB hb5
  go_wp2
  go_ret
  exact ⟨rfl, hB⟩
set_option maxHeartbeats 2000000 in
theorem law_DeclareTells (b : ByteArray) (w : World) (m : Int) (hm : MaxAt w m) :
    Calls Try.prog 3 #[.string b] w fun e w' => e = .returned (.bool true) ∧ Below w.heap.size w w' := by
  have HW := Lib.hid (fun (u : World) (h : MaxAt u m) => law07_wakes u m h)
  have HM := Lib.hid hm
  clear hm
  have hB := Below.refl w.heap.size w
  by_cases hbig : 2000 < b.size
  · go_enter Try.func3, Try.ntmps3
    go_wp2_with (go_at_call 7; refine (HW.out _ (HM.out.below hB)).mono ?_; rintro e w' ⟨rfl, hb1⟩; replace hB := bt hB hb1)
    go_ret
    exact ⟨rfl, hB⟩
  · obtain ⟨m1, m2, m3, hmk⟩ : ∃ x y z, mrkV (nums b) = (x, y, z) := ⟨_, _, _, rfl⟩
    obtain ⟨c1, hct⟩ : ∃ x, cutS b = x := ⟨_, rfl⟩
    obtain ⟨p1, p2, hsh⟩ : ∃ x y, shpV (nums b) = (x, y) := ⟨_, _, rfl⟩
    obtain ⟨q1, q2, hsc⟩ : ∃ x y, scnV (partsD (nums b)) = (x, y) := ⟨_, _, rfl⟩
    obtain ⟨zs, hzs⟩ : ∃ x, partsD (nums b) = x := ⟨_, rfl⟩
    have hzl : zs.length ≤ b.size := by rw [← hzs]; exact partsD_len b
    have A1 := Lib.hid (fun u => by have h := declare_Mark b u; rw [hmk] at h; exact h)
    have A2 := Lib.hid (fun u => by have h := ref07_Mark b u; rw [hmk] at h; exact h)
    have A3 := Lib.hid (fun u => by have h := declare_Cut b u; rw [hct] at h; exact h)
    have A4 := Lib.hid (fun u => by have h := ref07_Cut b u; rw [hct] at h; exact h)
    have A5 := Lib.hid (fun u => by have h := declare_Shape b u; rw [hsh] at h; exact h)
    have A6 := Lib.hid (fun u => by have h := ref07_Shape b u; rw [hsh] at h; exact h)
    have A7 := Lib.hid (fun u hu => by have h := declare_Scan b (by omega) u m hu; rw [hsc] at h; exact h)
    have A8 := Lib.hid (fun u => by have h := ref07_Scan b (by omega) u; rw [hsc] at h; exact h)
    have A9 := Lib.hid (fun u hu => by have h := declare_Parts b (by omega) u m hu; rw [hzs] at h; exact h)
    have A0 := Lib.hid (fun u => by have h := ref07_Parts b (by omega) u; rw [hzs] at h; exact h)
    clear hmk hct hsh hsc hzs
    go_enter Try.func3, Try.ntmps3
    go_wp2_with fail
    refine (A1.out _).mono ?_
    rintro e w1 ⟨rfl, hb1⟩
    replace hB := bt hB hb1
    go_wp2_with fail
    refine (A2.out _).mono ?_
    rintro e w' ⟨rfl, rfl⟩
    go_wp2_with fail
    refine (A3.out _).mono ?_
    rintro e w2 ⟨rfl, hb2⟩
    replace hB := bt hB hb2
    go_wp2_with fail
    refine (A4.out _).mono ?_
    rintro e w' ⟨rfl, rfl⟩
    go_wp2_with fail
    refine (A5.out _).mono ?_
    rintro e w3 ⟨rfl, hb3⟩
    replace hB := bt hB hb3
    go_wp2_with fail
    refine (A6.out _).mono ?_
    rintro e w' ⟨rfl, rfl⟩
    go_wp2_with fail
    refine (A7.out _ (HM.out.below hB)).mono ?_
    rintro e w4 ⟨rfl, hb4⟩
    replace hB := bt hB hb4
    go_wp2_with fail
    refine (A8.out _).mono ?_
    rintro e w5 ⟨rfl, hb5⟩
    replace hB := bt hB hb5
    go_wp2_with fail
    refine (A9.out _ (HM.out.below hB)).mono ?_
    rintro e w6 ⟨va, rfl, hra, hb6⟩
    replace hB := bt hB hb6
    go_wp2_with fail
    refine (A0.out _).mono ?_
    rintro e w7 ⟨vb, rfl, hrb, hb7⟩
    replace hB := bt hB hb7
    have hra := own_below hra hb7 (Nat.le_refl _)
    have HSR := Lib.hid (ref07_Same w7 _ _ va vb zs hra hrb (by omega))
    clear hra hrb
    go_wp2_with fail
    refine HSR.out.mono ?_
    rintro e w8 ⟨rfl, hb8⟩
    replace hB := bt hB hb8
    go_wp2_with fail
    refine (HW.out _ (HM.out.below hB)).mono ?_
    rintro e w9 ⟨rfl, hb9⟩
    go_wp2
    go_ret
    exact ⟨rfl, bt hB hb9⟩
set_option maxHeartbeats 2000000 in
theorem law_DeclareApart (b : ByteArray) (w : World) (m : Int) (hm : MaxAt w m) :
    Calls Try.prog 6 #[.string b] w fun e w' => e = .returned (.bool true) ∧ Below w.heap.size w w' := by
  have HW := Lib.hid (fun (u : World) (h : MaxAt u m) => law07_wakes u m h)
  have HM := Lib.hid hm
  clear hm
  have hB := Below.refl w.heap.size w
  by_cases hbig : 2000 < b.size
  · go_enter Try.func6, Try.ntmps6
    go_wp2_with (go_at_call 7; refine (HW.out _ (HM.out.below hB)).mono ?_; rintro e w' ⟨rfl, hb1⟩; replace hB := bt hB hb1)
    go_ret
    exact ⟨rfl, hB⟩
  · have hle := mrkV_le b
    have hcs : (cutS b).size = b.size - (mrkV (nums b)).2.1 := by unfold cutS; rw [ByteArray.size_extract]; omega
    have hpl := partsD_len b
    have A3 := Lib.hid (fun u => declare_Cut b u)
    have A9 := Lib.hid (fun u hu => declare_Parts b (by omega) u m hu)
    have A1 := Lib.hid (fun u => declare_Mark b u)
    have A5 := Lib.hid (fun u => declare_Shape b u)
    obtain ⟨C, hC⟩ : ∃ C, cutS b = C := ⟨_, rfl⟩
    cases hmk : markD (nums b) with
    | some p =>
      obtain ⟨hs, hp⟩ := apart_mark hmk
      have hm1 : mrkV (nums b) = (p.1, p.2, true) := by unfold mrkV; rw [hmk]
      have hs1 : shpV (nums b) = (0, false) := by unfold shpV; rw [hs]
      have hpos := (markD_len hmk).1
      rw [hm1] at A1 hle hcs
      rw [hs1] at A5
      rw [hp] at A9
      rw [hC] at A3 hcs
      dsimp only at A1 hle hcs
      obtain ⟨p1, n⟩ := p
      dsimp only at A1 hle hcs hpos
      have hcz : (C.size : Int) = (b.size : Int) - (n : Int) := by omega
      have hcz2 : ((C.size : Int) == (b.size : Int) - (n : Int)) = true := by simpa using hcz
      have hn0 : (0 : Int) < (n : Int) := by omega
      clear hmk hs hp hm1 hs1 hC
      go_enter Try.func6, Try.ntmps6
      go_wp2_with fail
      refine (A1.out _).mono ?_
      rintro e w1 ⟨rfl, hb1⟩
      replace hB := bt hB hb1
      go_wp2_with fail
      refine (A5.out _).mono ?_
      rintro e w2 ⟨rfl, hb2⟩
      replace hB := bt hB hb2
      go_wp2_with fail
      refine (A9.out _ (HM.out.below hB)).mono ?_
      rintro e w3 ⟨v, rfl, hr, hb3⟩
      replace hB := bt hB hb3
      obtain ⟨a, cp, rfl, -⟩ := own_form hr
      go_wp2_with fail
      refine (A3.out _).mono ?_
      rintro e w4 ⟨rfl, hb4⟩
      replace hB := bt hB hb4
      go_wp2_with fail
      refine (HW.out _ (HM.out.below hB)).mono ?_
      rintro e w9 ⟨rfl, hb9⟩
      go_wp2
      go_ret
      exact ⟨rfl, bt hB hb9⟩
    | none =>
      have hm1 : mrkV (nums b) = (0, 0, false) := by unfold mrkV; rw [hmk]
      rw [hm1] at A1 hle hcs
      have hCb : C = b := by rw [← hC]; unfold cutS; rw [hm1]; exact ByteArray.extract_zero_size
      rw [hC, hCb] at A3
      dsimp only at A1
      have hbb : (b.toList == b.toList) = true := by simp
      have fin : ∀ (p1 : Int) (p2 : Bool) (l : Nat), l ≤ b.size → (p2 = true → l = 0) → (∀ u, Calls Try.prog 12 #[.string b] u fun e w' => e = .returned (.tuple #[.int .i8 p1, .bool p2]) ∧ Below u.heap.size u w') →
          (∀ u, MaxAt u m → Calls Try.prog 17 #[.string b] u fun e w' => ∃ v, e = .returned v ∧ (∃ a c, v = .slice a l c) ∧ Below u.heap.size u w') →
          Calls Try.prog 6 #[.string b] w fun e w' => e = .returned (.bool true) ∧ Below w.heap.size w w' := by
        intro p1 p2 l hl hpl2 A5 A9
        have A5 := Lib.hid A5
        have A9 := Lib.hid A9
        clear hC hCb hmk hm1 hcs
        cases p2 with
        | true =>
          obtain rfl := hpl2 rfl
          go_enter Try.func6, Try.ntmps6
          go_wp2_with fail
          refine (A1.out _).mono ?_
          rintro e w1 ⟨rfl, hb1⟩
          replace hB := bt hB hb1
          go_wp2_with fail
          refine (A5.out _).mono ?_
          rintro e w2 ⟨rfl, hb2⟩
          replace hB := bt hB hb2
          go_wp2_with fail
          refine (A9.out _ (HM.out.below hB)).mono ?_
          rintro e w3 ⟨v, rfl, ⟨a, cp, rfl⟩, hb3⟩
          replace hB := bt hB hb3
          go_wp2_with fail
          refine (A3.out _).mono ?_
          rintro e w4 ⟨rfl, hb4⟩
          replace hB := bt hB hb4
          go_wp2_with fail
          refine (A3.out _).mono ?_
          rintro e w5 ⟨rfl, hb5⟩
          replace hB := bt hB hb5
          go_wp2_with fail
          refine (HW.out _ (HM.out.below hB)).mono ?_
          rintro e w9 ⟨rfl, hb9⟩
          go_wp2
          go_ret
          exact ⟨rfl, bt hB hb9⟩
        | false =>
          by_cases hl0 : l = 0
          · subst hl0
            go_enter Try.func6, Try.ntmps6
            go_wp2_with fail
            refine (A1.out _).mono ?_
            rintro e w1 ⟨rfl, hb1⟩
            replace hB := bt hB hb1
            go_wp2_with fail
            refine (A5.out _).mono ?_
            rintro e w2 ⟨rfl, hb2⟩
            replace hB := bt hB hb2
            go_wp2_with fail
            refine (A9.out _ (HM.out.below hB)).mono ?_
            rintro e w3 ⟨v, rfl, ⟨a, cp, rfl⟩, hb3⟩
            replace hB := bt hB hb3
            go_wp2_with fail
            refine (A3.out _).mono ?_
            rintro e w4 ⟨rfl, hb4⟩
            replace hB := bt hB hb4
            go_wp2_with fail
            refine (A3.out _).mono ?_
            rintro e w5 ⟨rfl, hb5⟩
            replace hB := bt hB hb5
            go_wp2_with fail
            refine (HW.out _ (HM.out.below hB)).mono ?_
            rintro e w9 ⟨rfl, hb9⟩
            go_wp2
            go_ret
            exact ⟨rfl, bt hB hb9⟩
          · have hlp : (0 : Int) < (l : Int) := by omega
            go_enter Try.func6, Try.ntmps6
            go_wp2_with fail
            refine (A1.out _).mono ?_
            rintro e w1 ⟨rfl, hb1⟩
            replace hB := bt hB hb1
            go_wp2_with fail
            refine (A5.out _).mono ?_
            rintro e w2 ⟨rfl, hb2⟩
            replace hB := bt hB hb2
            go_wp2_with fail
            refine (A9.out _ (HM.out.below hB)).mono ?_
            rintro e w3 ⟨v, rfl, ⟨a, cp, rfl⟩, hb3⟩
            replace hB := bt hB hb3
            go_wp2_with fail
            refine (A3.out _).mono ?_
            rintro e w4 ⟨rfl, hb4⟩
            replace hB := bt hB hb4
            go_wp2_with fail
            refine (A3.out _).mono ?_
            rintro e w5 ⟨rfl, hb5⟩
            replace hB := bt hB hb5
            go_wp2_with fail
            refine (HW.out _ (HM.out.below hB)).mono ?_
            rintro e w9 ⟨rfl, hb9⟩
            go_wp2
            go_ret
            exact ⟨rfl, bt hB hb9⟩
      refine fin (shpV (nums b)).1 (shpV (nums b)).2 (partsD (nums b)).length hpl (fun h => ?_) A5.out (fun u hu => (A9.out u hu).mono ?_)
      · cases hs : shapeD (nums b) with
        | none => unfold shpV at h; rw [hs] at h; cases h
        | some p => rw [apart_shape hs]; rfl
      · rintro e w' ⟨v, rfl, hr, hb⟩
        obtain ⟨a, c, rfl, -⟩ := own_form hr
        exact ⟨_, rfl, ⟨a, c, rfl⟩, hb⟩
end Go.Proofs.Ytaheooedcjjckaa
