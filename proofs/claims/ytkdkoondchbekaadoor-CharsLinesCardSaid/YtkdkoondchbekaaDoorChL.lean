/-
  The walks of layer 9's statements: wakes, CharsTell, CharsNest, CharsTexts, CharsCut, CharsNames.
-/
import Derived.Test.YtkdkoondchbekaaDoorChE
namespace Go.Proofs.YtkdkoondchbekaaDoor
open Go.RowKit
/-- the library's variable holds some number. -/
def MaxAt (w : World) (m : Int) : Prop := w.cell? ⟨0, 0, none⟩ = some (.int .i64 m)
theorem MaxAt.below {w w' : World} {m : Int} (hm : MaxAt w m) (hb : Below w.heap.size w w') : MaxAt w' m := by
  have hgw : 0 < w.heap.size := by
    unfold MaxAt at hm
    simp only [World.cell?] at hm
    by_cases hlt : 0 < w.heap.size
    · exact hlt
    · rw [Array.getElem?_eq_none (by omega)] at hm; simp at hm
  exact (hb.cell (p := ⟨0, 0, none⟩) hgw).trans hm
theorem bt {a b c : World} (h : Below a.heap.size a b) (k : Below b.heap.size b c) : Below a.heap.size a c := h.trans (k.mono h.size)
set_option maxHeartbeats 2000000 in
theorem law09_wakes (m : Int) (w : World) (hm : MaxAt w m) :
    Calls Tryd.prog 9 #[] w fun e w' => e = .returned (.bool true) ∧ Below w.heap.size w w' := by
  have e1 : spOut (nums ⟨#[100, 99, 58, 100, 97, 116, 101]⟩) = .tuple #[.string ⟨#[100, 99]⟩, .string ⟨#[100, 97, 116, 101]⟩, .bool true] := by kernel_rfl
  have e2 : spOut (nums ⟨#[97, 58, 98, 58, 99]⟩) = .tuple #[.string ⟨#[]⟩, .string ⟨#[]⟩, .bool false] := by kernel_rfl
  have e3 : badN (nums ⟨#[97, 1]⟩) = 1 := by kernel_rfl
  have e4 : strOfNums (linesN (nums ⟨#[97, 13, 10, 98, 13, 99]⟩)) = ⟨#[97, 10, 98, 10, 99]⟩ := by kernel_rfl
  have e5 : takeN (nums ⟨#[97, 58, 98, 61]⟩) = 3 := by kernel_rfl
  have e6 : chB 9 = true := by kernel_rfl
  have e7 : chB 65534 = false := by kernel_rfl
  have E1 := Lib.hid e1
  have E2 := Lib.hid e2
  have E3 := Lib.hid e3
  have E4 := Lib.hid e4
  have E5 := Lib.hid e5
  have E6 := Lib.hid e6
  have E7 := Lib.hid e7
  have HM := Lib.hid hm
  clear e1 e2 e3 e4 e5 e6 e7 hm
  go_enter Tryd.func9, Tryd.ntmps9
  go_wp2_with fail
  refine (chars_Split _ m _ (by decide) HM.out).mono ?_
  rw [E1.out]
  rintro e w1 ⟨rfl, hb1⟩
  go_wp2_with fail
  refine (chars_Split _ m _ (by decide) (HM.out.below hb1)).mono ?_
  rw [E2.out]
  rintro e w2 ⟨rfl, hb2⟩
  have h2 := bt hb1 hb2
  go_wp2_with fail
  refine (chars_Bad _ _ (by decide)).mono ?_
  rw [E3.out]
  rintro e w3 ⟨rfl, hb3⟩
  have h3 := bt h2 hb3
  go_wp2_with fail
  refine (chars_Lines _ m _ (by decide) (HM.out.below h3)).mono ?_
  rw [E4.out]
  rintro e w4 ⟨rfl, hb4⟩
  have h4 := bt h3 hb4
  go_wp2_with fail
  refine (chars_Take _ _ (by decide)).mono ?_
  rw [E5.out]
  rintro e w5 ⟨rfl, hb5⟩
  have h5 := bt h4 hb5
  go_wp2_with fail
  refine (chars_Char _ _).mono ?_
  rw [E6.out]
  rintro e w6 ⟨rfl, hb6⟩
  have h6 := bt h5 hb6
  go_wp2_with fail
  refine (chars_Char _ _).mono ?_
  rw [E7.out]
  rintro e w7 ⟨rfl, hb7⟩
  go_wp2
  go_ret
  exact ⟨rfl, bt h6 hb7⟩
set_option maxHeartbeats 2000000 in
theorem law_CharsTell (r : Int) (w : World) (m : Int) (hm : MaxAt w m) :
    Calls Tryd.prog 6 #[.int .i64 r] w fun e w' => e = .returned (.bool true) ∧ Below w.heap.size w w' := by
  have HM := Lib.hid hm
  clear hm
  obtain ⟨a, ha⟩ : ∃ a, chB r = a := ⟨_, rfl⟩
  obtain ⟨b, hb⟩ : ∃ a, spB r = a := ⟨_, rfl⟩
  obtain ⟨c, hc⟩ : ∃ a, fiB r = a := ⟨_, rfl⟩
  obtain ⟨d, hd⟩ : ∃ a, fuB r = a := ⟨_, rfl⟩
  have A := Lib.hid ha
  have B := Lib.hid hb
  have C := Lib.hid hc
  have D := Lib.hid hd
  clear ha hb hc hd
  go_enter Tryd.func6, Tryd.ntmps6
  go_wp2_with fail
  refine (chars_Char _ _).mono ?_
  rw [A.out]
  rintro e w1 ⟨rfl, hb1⟩
  go_wp2_with fail
  refine (ref09_Char _ _).mono ?_
  rw [A.out]
  rintro e w' ⟨rfl, rfl⟩
  go_wp2_with fail
  refine (chars_Space _ _).mono ?_
  rw [B.out]
  rintro e w' ⟨rfl, rfl⟩
  go_wp2_with fail
  refine (ref09_Space _ _).mono ?_
  rw [B.out]
  rintro e w' ⟨rfl, rfl⟩
  go_wp2_with fail
  refine (chars_First _ _).mono ?_
  rw [C.out]
  rintro e w2 ⟨rfl, hb2⟩
  have h2 := bt hb1 hb2
  go_wp2_with fail
  refine (ref09_First _ _).mono ?_
  rw [C.out]
  rintro e w' ⟨rfl, rfl⟩
  go_wp2_with fail
  refine (chars_Further _ _).mono ?_
  rw [D.out]
  rintro e w3 ⟨rfl, hb3⟩
  have h3 := bt h2 hb3
  go_wp2_with fail
  refine (ref09_Further _ _).mono ?_
  rw [D.out]
  rintro e w' ⟨rfl, rfl⟩
  go_wp2_with fail
  refine (law09_wakes m _ (HM.out.below h3)).mono ?_
  rintro e w4 ⟨rfl, hb4⟩
  go_wp2
  go_ret
  exact ⟨rfl, bt h3 hb4⟩
set_option maxHeartbeats 4000000 in
theorem law_CharsNest (r : Int) (w : World) (m : Int) (hm : MaxAt w m) :
    Calls Tryd.prog 7 #[.int .i64 r] w fun e w' => e = .returned (.bool true) ∧ Below w.heap.size w w' := by
  have HM := Lib.hid hm
  clear hm
  have n1 : fiB r = true → fuB r = true := fun h => fi_fu h
  have n2 : fuB r = true → chB r = true := fun h => fu_ch h
  have n3 : spB r = true → chB r = true ∧ fuB r = false := fun h => ⟨sp_ch h, sp_fu h⟩
  have n4 : chB r = true → isSc r = true := fun h => ch_sc h
  obtain ⟨a, ha⟩ : ∃ a, chB r = a := ⟨_, rfl⟩
  obtain ⟨b, hb⟩ : ∃ a, spB r = a := ⟨_, rfl⟩
  obtain ⟨c, hc⟩ : ∃ a, fiB r = a := ⟨_, rfl⟩
  obtain ⟨d, hd⟩ : ∃ a, fuB r = a := ⟨_, rfl⟩
  obtain ⟨f, hf⟩ : ∃ a, isSc r = a := ⟨_, rfl⟩
  rw [hc, hd] at n1
  rw [ha, hd] at n2
  rw [ha, hb, hd] at n3
  rw [ha, hf] at n4
  have A := Lib.hid ha
  have B := Lib.hid hb
  have C := Lib.hid hc
  have D := Lib.hid hd
  have F := Lib.hid hf
  clear ha hb hc hd hf
  have key : ∀ (c d a b f : Bool), (c = true → d = true) → (d = true → a = true) → (b = true → a = true ∧ d = false) → (a = true → f = true) → fiB r = c → fuB r = d → chB r = a → spB r = b → isSc r = f →
      Calls Tryd.prog 7 #[.int .i64 r] w fun e w' => e = .returned (.bool true) ∧ Below w.heap.size w w' := by
    intro c d a b f k1 k2 k3 k4 hc hd ha hb hf
    have A := Lib.hid ha
    have B := Lib.hid hb
    have C := Lib.hid hc
    have D := Lib.hid hd
    have F := Lib.hid hf
    clear ha hb hc hd hf n1 n2 n3 n4
    cases c <;> cases d <;> cases a <;> cases b <;> cases f <;> first
      | (exfalso; revert k1 k2 k3 k4; decide)
      | (clear k1 k2 k3 k4
         go_enter Tryd.func7, Tryd.ntmps7
         have hB := Below.refl w.heap.size w
         go_wp2_with (first
           | (go_at_call 20; refine (chars_First _ _).mono ?_; rw [C.out]; rintro e w1 ⟨rfl, hb1⟩; replace hB := bt hB hb1; clear hb1)
           | (go_at_call 22; refine (chars_Further _ _).mono ?_; rw [D.out]; rintro e w2 ⟨rfl, hb2⟩; replace hB := bt hB hb2; clear hb2)
           | (go_at_call 16; refine (chars_Char _ _).mono ?_; rw [A.out]; rintro e w3 ⟨rfl, hb3⟩; replace hB := bt hB hb3; clear hb3)
           | (go_at_call 18; refine (chars_Space _ _).mono ?_; rw [B.out]; rintro e w4 ⟨rfl, rfl⟩)
           | (go_at_call 24; refine (ref02_Put _ _).mono ?_; rw [F.out]; rintro e w5 ⟨rfl, hb5⟩; replace hB := bt hB hb5; clear hb5)
           | (go_at_call 9; refine (law09_wakes m _ (HM.out.below hB)).mono ?_; rintro e w6 ⟨rfl, hb6⟩; replace hB := bt hB hb6; clear hb6))
         go_ret
         exact ⟨rfl, hB⟩)
  exact key c d a b f n1 n2 n3 n4 C.out D.out A.out B.out F.out
set_option maxRecDepth 100000 in
set_option maxHeartbeats 4000000 in
theorem law_CharsTexts (s : ByteArray) (w : World) (m : Int) (hm : MaxAt w m) :
    Calls Tryd.prog 8 #[.string s] w fun e w' => e = .returned (.bool true) ∧ Below w.heap.size w w' := by
  have HM := Lib.hid hm
  clear hm
  have hB := Below.refl w.heap.size w
  by_cases h : s.size ≤ 2000
  · obtain ⟨a, ha⟩ : ∃ a, (splitN (nums s)).1 = a := ⟨_, rfl⟩
    obtain ⟨b, hb⟩ : ∃ a, (splitN (nums s)).2.1 = a := ⟨_, rfl⟩
    obtain ⟨o, ho⟩ : ∃ a, (splitN (nums s)).2.2 = a := ⟨_, rfl⟩
    have hsp : spOut (nums s) = .tuple #[.string (strOfNums a), .string (strOfNums b), .bool o] := by unfold spOut; rw [ha, hb, ho]
    obtain ⟨x, hx⟩ : ∃ x, strOfNums a = x := ⟨_, rfl⟩
    obtain ⟨y, hy⟩ : ∃ x, strOfNums b = x := ⟨_, rfl⟩
    rw [hx, hy] at hsp
    obtain ⟨p, hp⟩ : ∃ a, plainN (nums s) = a := ⟨_, rfl⟩
    obtain ⟨n, hn⟩ : ∃ a, badN (nums s) = a := ⟨_, rfl⟩
    obtain ⟨k, hk⟩ : ∃ a, blankN (nums s) = a := ⟨_, rfl⟩
    obtain ⟨t, ht⟩ : ∃ a, ((takeN (nums s) : Nat) : Int) = a := ⟨_, rfl⟩
    obtain ⟨l, hl⟩ : ∃ a, strOfNums (linesN (nums s)) = a := ⟨_, rfl⟩
    have ex : (x.toList == x.toList) = true := by simp
    have ey : (y.toList == y.toList) = true := by simp
    have el : (l.toList == l.toList) = true := by simp
    have SP := Lib.hid hsp
    have P := Lib.hid hp
    have N := Lib.hid hn
    have K := Lib.hid hk
    have T := Lib.hid ht
    have L := Lib.hid hl
    clear ha hb ho hsp hp hn hk ht hl hx hy
    go_enter Tryd.func8, Tryd.ntmps8
    go_wp2_with (first
      | (go_at_call 11; refine (chars_Split s m _ (by omega) (HM.out.below hB)).mono ?_; rw [SP.out]; rintro e w1 ⟨rfl, hb1⟩; replace hB := bt hB hb1; clear hb1)
      | (go_at_call 25; refine (ref09_Split s _ (by omega)).mono ?_; rw [SP.out]; rintro e w1 ⟨rfl, hb1⟩; replace hB := bt hB hb1; clear hb1)
      | (go_at_call 12; refine (chars_Plain s _ (by omega)).mono ?_; rw [P.out]; rintro e w1 ⟨rfl, hb1⟩; replace hB := bt hB hb1; clear hb1)
      | (go_at_call 26; refine (ref09_Plain s _ (by omega)).mono ?_; rw [P.out]; rintro e w1 ⟨rfl, hb1⟩; replace hB := bt hB hb1; clear hb1)
      | (go_at_call 14; refine (chars_Bad s _ (by omega)).mono ?_; rw [N.out]; rintro e w1 ⟨rfl, hb1⟩; replace hB := bt hB hb1; clear hb1)
      | (go_at_call 27; refine (ref09_Bad s _ (by omega)).mono ?_; rw [N.out]; rintro e w1 ⟨rfl, rfl⟩)
      | (go_at_call 28; refine (chars_Blank s _ (by omega)).mono ?_; rw [K.out]; rintro e w1 ⟨rfl, hb1⟩; replace hB := bt hB hb1; clear hb1)
      | (go_at_call 29; refine (ref09_Blank s _ (by omega)).mono ?_; rw [K.out]; rintro e w1 ⟨rfl, rfl⟩)
      | (go_at_call 13; refine (chars_Take s _ (by omega)).mono ?_; rw [T.out]; rintro e w1 ⟨rfl, hb1⟩; replace hB := bt hB hb1; clear hb1)
      | (go_at_call 30; refine (ref09_Take s _ (by omega)).mono ?_; rw [T.out]; rintro e w1 ⟨rfl, rfl⟩)
      | (go_at_call 10; refine (chars_Lines s m _ (by omega) (HM.out.below hB)).mono ?_; rw [L.out]; rintro e w1 ⟨rfl, hb1⟩; replace hB := bt hB hb1; clear hb1)
      | (go_at_call 31; refine (ref09_Lines s _ (by omega)).mono ?_; rw [L.out]; rintro e w1 ⟨rfl, hb1⟩; replace hB := bt hB hb1; clear hb1)
      | (go_at_call 9; refine (law09_wakes m _ (HM.out.below hB)).mono ?_; rintro e w6 ⟨rfl, hb6⟩; replace hB := bt hB hb6; clear hb6))
    go_ret
    exact ⟨rfl, hB⟩
  · go_enter Tryd.func8, Tryd.ntmps8
    go_wp2_with (go_at_call 9; refine (law09_wakes m _ (HM.out.below hB)).mono ?_; rintro e w6 ⟨rfl, hb6⟩; replace hB := bt hB hb6; clear hb6)
    go_ret
    exact ⟨rfl, hB⟩
end Go.Proofs.YtkdkoondchbekaaDoor
