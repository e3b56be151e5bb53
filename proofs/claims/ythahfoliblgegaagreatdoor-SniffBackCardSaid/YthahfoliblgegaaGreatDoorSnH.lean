/-
  Layer 8: what the laws wake with; the law SniffTells.
-/
import Derived.Test.YthahfoliblgegaaGreatDoorG14
namespace Go.Proofs.YthahfoliblgegaaGreatDoor
open Go.RowKit
/-- what lasts within a law. -/
structure LwI (w : World) (m : Int) (wr : World) : Prop where
  bl : Below w.heap.size w wr
  mx : MaxAt wr m
  tb : TabAt wr
theorem LwI.below {w wr wx : World} {m : Int} (h : LwI w m wr) (hb : Below wr.heap.size wr wx) : LwI w m wx := ⟨bt h.bl hb, h.mx.below hb, h.tb.below hb⟩
theorem LwI.start {w : World} {m : Int} (hm : MaxAt w m) (ht : TabAt w) : LwI w m w := ⟨Below.refl _ _, hm, ht⟩
theorem LwI.drewN {w wr : World} {m : Int} (h : LwI w m wr) (n : Nat) : LwI w m (wr.drewN n) := h.below (below_dn (Below.refl _ wr) n)
theorem LwI.drew {w wr : World} {m : Int} (h : LwI w m wr) : LwI w m wr.drew := h.below (Below.refl _ wr).drew
def wkA : ByteArray := ⟨#[116, 101, 120, 116, 47, 120, 109, 108, 59, 32, 99, 104, 97, 114, 115, 101, 116, 61, 108, 97, 116, 105, 110, 49]⟩
def wkB : ByteArray := ⟨#[239, 187, 191, 97]⟩
def wkC : ByteArray := ⟨#[116, 101, 120, 116, 47, 120, 109, 108, 59, 32, 99, 104, 97, 114, 115, 101, 116, 61, 110, 111, 110, 101]⟩
def wkD : ByteArray := ⟨#[97]⟩
theorem wk_one : txtR wkA wkB = ((⟨#[97]⟩, 0, []), 0) := by decide +kernel
theorem wk_two : txtR wkC wkD = ((⟨#[97]⟩, 0, [(1, 0)]), 0) := by decide +kernel
set_option maxRecDepth 100000 in
set_option maxHeartbeats 2000000 in
theorem law08_wakes (w : World) (m : Int) (hm : MaxAt w m) (ht : TabAt w) :
    Calls Tryz.prog 7 #[] w fun e w' => e = .returned (.bool true) ∧ Below w.heap.size w w' := by
  have L0 := LwI.start hm ht
  have hA := fun w h1 h2 => sniff_Text wkA wkB (by decide) w m h1 h2
  have hB := fun w h1 h2 => sniff_Text wkC wkD (by decide) w m h1 h2
  rw [wk_one] at hA
  rw [wk_two] at hB
  unfold wkA wkB at hA
  unfold wkC wkD at hB
  have HA := Lib.hid hA
  have HB := Lib.hid hB
  clear hA hB hm ht
  go_enter Tryz.func7, Tryz.ntmps7
  go_wp2_with fail
  refine (HA.out _ L0.mx L0.tb).mono ?_
  rintro e w1 ⟨v, rfl, ho1, hb1⟩
  have L1 := L0.below hb1
  have hr1 := CReads.of_own ho1
  obtain ⟨a1, c1, rfl, -⟩ := hr1
  clear L0 hb1 ho1
  go_wp2_with fail
  refine (HB.out _ L1.mx L1.tb).mono ?_
  rintro e w2 ⟨v, rfl, ho2, hb2⟩
  have L2 := L1.below hb2
  have hr2 := CReads.of_own ho2
  obtain ⟨b, off, cap, hv, h0, h1⟩ := hr2.rs (Below.refl w2.heap.size w2) (Nat.le_refl _) 0 (1, 0) rfl
  subst hv
  simp only [Nat.zero_mul, Nat.add_zero] at h0 h1
  clear L1 hb2 ho2 hr2
  go_wp2_with fail
  go_ret
  exact ⟨rfl, L2.bl⟩
theorem CReads.up {w w' : World} {v : Value} {n : Nat} {cs : List Value} (h : CReads w.heap.size w v n cs) (hb : Below w.heap.size w w') : CReads w'.heap.size w' v n cs := (h.below hb (Nat.le_refl _)).mono hb.size
set_option maxRecDepth 100000 in
set_option maxHeartbeats 8000000 in
theorem law_SniffTells (kind body : ByteArray) (w : World) (m : Int) (hm : MaxAt w m) (ht : TabAt w) (h1 : kind.size ≤ 140737488351232) (h2 : body.size ≤ 140737488351232) :
    Calls Tryz.prog 3 #[.string kind, .string body] w fun e w' => e = .returned (.bool true) ∧ Below w.heap.size w w' := by
  have L0 := LwI.start hm ht
  have HW := Lib.hid (fun w h1 h2 => law08_wakes w m h1 h2)
  clear hm ht
  by_cases hk : 1000 < kind.size
  · have hd := decide_eq_true (show (1000 : Int) < (kind.size : Int) by omega)
    clear hk
    go_enter Tryz.func3, Tryz.ntmps3
    go_wp2_with fail
    refine (HW.out _ L0.mx L0.tb).mono ?_
    rintro e w9 ⟨rfl, hb9⟩
    go_wp2_with fail
    go_ret
    exact ⟨rfl, hb9⟩
  · have hd := decide_eq_false (show ¬ (1000 : Int) < (kind.size : Int) by omega)
    by_cases hz : 6000 < body.size
    · have hd2 := decide_eq_true (show (6000 : Int) < (body.size : Int) by omega)
      clear hk hz
      go_enter Tryz.func3, Tryz.ntmps3
      go_wp2_with fail
      refine (HW.out _ L0.mx L0.tb).mono ?_
      rintro e w9 ⟨rfl, hb9⟩
      go_wp2_with fail
      go_ret
      exact ⟨rfl, hb9⟩
    · have hd2 := decide_eq_false (show ¬ (6000 : Int) < (body.size : Int) by omega)
      have hlk := (encP_range kind body).2.2
      have hE := fun w h1 h2 => sniff_Encoding kind body (by omega) (by omega) w m h1 h2
      have hF := fun w => ref08_Encoding kind body (by omega) (by omega) w
      have hT := fun w h1 h2 => sniff_Text kind body (by omega) w m h1 h2
      have hU := fun w => ref08_Text kind body (by omega) w
      have hX := fun w => sniff_Xml kind w (by omega)
      have hY := fun w => ref08_Xml kind w (by omega)
      have htl : (txtR kind body).1.2.2.length ≤ 10 := by
        unfold txtR
        split
        · simp
        · unfold txtP
          simp only [List.length_append, List.length_map]
          split
          · simp only [List.length_cons, List.length_nil]; omega
          · simp only [List.length_nil]; omega
      obtain ⟨E, hEE⟩ : ∃ E, encP kind body = E := ⟨_, rfl⟩
      rw [hEE] at hE hF hlk
      obtain ⟨enc, n, lk⟩ := E
      obtain ⟨R, hRR⟩ : ∃ R, txtR kind body = R := ⟨_, rfl⟩
      rw [hRR] at hT hU htl
      obtain ⟨⟨T, en2, rl⟩, c⟩ := R
      obtain ⟨xm, hxm⟩ : ∃ x, xmlK kind = x := ⟨_, rfl⟩
      rw [hxm] at hX hY
      have HE := Lib.hid hE
      have HF := Lib.hid hF
      have HT := Lib.hid hT
      have HU := Lib.hid hU
      have HX := Lib.hid hX
      have HY := Lib.hid hY
      have hk0 : (k0 lk).length = lk.length := by simp [k0]
      have hlk2 : (k0 lk).length ≤ 1000000 := by rw [hk0]; simp only at hlk; omega
      have hrl : rl.length ≤ 1000000 := by simp only at htl; omega
      have HK0 := Lib.hid hk0.symm
      clear hE hF hT hU hX hY hEE hRR hxm hk hz hlk htl hk0
      have e1 : (enc == enc) = true := by simp
      have e2 : ((n : Int) == (n : Int)) = true := by simp
      have e3 : (T.toList == T.toList) = true := by simp
      have e4 : (en2 == en2) = true := by simp
      have e5 : (c == c) = true := by simp
      have e6 : (xm == xm) = true := by simp
      go_enter Tryz.func3, Tryz.ntmps3
      go_wp2_with fail
      refine (HE.out _ L0.mx L0.tb).mono ?_
      rintro e w1 ⟨v1, rfl, ho1, hb1⟩
      have L1 := L0.below hb1
      have r1 : CReads w1.heap.size w1 v1 (k0 lk).length (rsC (k0 lk)) := by rw [← HK0.out]; exact CReads.of_own ho1
      clear L0 ho1 hb1
      go_wp2_with fail
      refine (HF.out _).mono ?_
      rintro e w2 ⟨v2, rfl, ho2, hb2⟩
      have L2 := L1.below hb2
      have r2 : CReads w2.heap.size w2 v2 (k0 lk).length (rsC (k0 lk)) := by rw [← HK0.out]; exact CReads.of_own ho2
      replace r1 := r1.up hb2
      clear L1 ho2 hb2
      go_wp2_with fail
      refine (HT.out _ L2.mx L2.tb).mono ?_
      rintro e w3 ⟨v3, rfl, ho3, hb3⟩
      have L3 := L2.below hb3
      have r3 : CReads w3.heap.size w3 v3 rl.length (rsC rl) := CReads.of_own ho3
      replace r1 := r1.up hb3
      replace r2 := r2.up hb3
      clear L2 ho3 hb3
      go_wp2_with fail
      refine (HU.out _).mono ?_
      rintro e w4 ⟨v4, rfl, ho4, hb4⟩
      have L4 := L3.below hb4
      have r4 : CReads w4.heap.size w4 v4 rl.length (rsC rl) := CReads.of_own ho4
      replace r1 := r1.up hb4
      replace r2 := r2.up hb4
      replace r3 := r3.up hb4
      clear L3 ho4 hb4
      go_wp2_with fail
      refine (ref08_Same w4.heap.size v1 v2 (k0 lk) w4 r1 r2 (Nat.le_refl _) hlk2).mono ?_
      rintro e w5 ⟨rfl, hb5⟩
      have L5 := L4.below hb5
      replace r3 := r3.up hb5
      replace r4 := r4.up hb5
      clear L4 hb5 r1 r2
      go_wp2_with fail
      refine (ref08_Same w5.heap.size v3 v4 rl w5 r3 r4 (Nat.le_refl _) hrl).mono ?_
      rintro e w6 ⟨rfl, hb6⟩
      have L6 := L5.below hb6
      clear L5 hb6 r3 r4
      go_wp2_with fail
      refine (HX.out _).mono ?_
      rintro e w7 ⟨rfl, hb7⟩
      have L7 := L6.below hb7
      clear L6 hb7
      go_wp2_with fail
      refine (HY.out _).mono ?_
      rintro e w8 ⟨rfl, hb8⟩
      have L8 := L7.below hb8
      clear L7 hb8
      go_wp2_with fail
      refine (HW.out _ L8.mx L8.tb).mono ?_
      rintro e w9 ⟨rfl, hb9⟩
      have L9 := L8.below hb9
      go_wp2_with fail
      go_ret
      exact ⟨rfl, L9.bl⟩
set_option maxRecDepth 100000 in
set_option maxHeartbeats 8000000 in
theorem law_SniffCodes (enc : Int) (b text : ByteArray) (w : World) (m : Int) (hm : MaxAt w m) (ht : TabAt w) (h8 : -128 ≤ enc ∧ enc ≤ 127) (h1 : b.size ≤ 140737488351232) (h2 : text.size ≤ 140737488351232) :
    Calls Tryz.prog 5 #[.int .i8 enc, .string b, .string text] w fun e w' => e = .returned (.bool true) ∧ Below w.heap.size w w' := by
  have L0 := LwI.start hm ht
  have HW := Lib.hid (fun w h1 h2 => law08_wakes w m h1 h2)
  clear hm ht
  by_cases hk : 3000 < b.size + text.size
  · have hd := decide_eq_true (show (3000 : Int) < (b.size : Int) + (text.size : Int) by omega)
    clear hk
    go_enter Tryz.func5, Tryz.ntmps5
    go_wp2_with fail
    refine (HW.out _ L0.mx L0.tb).mono ?_
    rintro e w9 ⟨rfl, hb9⟩
    go_wp2_with fail
    go_ret
    exact ⟨rfl, hb9⟩
  · have hd := decide_eq_false (show ¬ (3000 : Int) < (b.size : Int) + (text.size : Int) by omega)
    have hD := fun w => sniff_Decode enc b w (by omega) h8
    have hE := fun w => ref08_Decode enc b w (by omega)
    have hF := fun w => sniff_Encode enc text w (by omega)
    have hG := fun w => ref08_Encode enc text w (by omega)
    obtain ⟨D, hDD⟩ : ∃ D, decP enc b = D := ⟨_, rfl⟩
    obtain ⟨Q, hQQ⟩ : ∃ D, encQ enc text = D := ⟨_, rfl⟩
    rw [hDD] at hD hE
    rw [hQQ] at hF hG
    obtain ⟨T, at_⟩ := D
    obtain ⟨S, ok⟩ := Q
    have HD := Lib.hid hD
    have HE := Lib.hid hE
    have HF := Lib.hid hF
    have HG := Lib.hid hG
    clear hD hE hF hG hDD hQQ hk
    have e1 : (at_ == at_) = true := by simp
    have e2 : (ok == ok) = true := by simp
    have e3 : (T.toList == T.toList) = true := by simp
    have e4 : (S.toList == S.toList) = true := by simp
    go_enter Tryz.func5, Tryz.ntmps5
    go_wp2_with fail
    refine (HD.out _).mono ?_
    rintro e w1 ⟨rfl, hb1⟩
    have L1 := L0.below hb1
    go_wp2_with fail
    refine (HE.out _).mono ?_
    rintro e w2 ⟨rfl, hb2⟩
    have L2 := L1.below hb2
    go_wp2_with fail
    refine (HF.out _).mono ?_
    rintro e w3 ⟨rfl, hb3⟩
    have L3 := L2.below hb3
    go_wp2_with fail
    refine (HG.out _).mono ?_
    rintro e w4 ⟨rfl, hb4⟩
    have L4 := L3.below hb4
    clear L0 L1 L2 L3 hb1 hb2 hb3 hb4
    go_wp2_with fail
    refine (HW.out _ L4.mx L4.tb).mono ?_
    rintro e w9 ⟨rfl, hb9⟩
    have L9 := L4.below hb9
    go_wp2_with fail
    go_ret
    exact ⟨rfl, L9.bl⟩
end Go.Proofs.YthahfoliblgegaaGreatDoor
