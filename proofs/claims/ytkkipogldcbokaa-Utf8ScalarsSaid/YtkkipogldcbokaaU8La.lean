/-
  The walks of layer 2's statements: Utf8Loose, Utf8Tells, Utf8Scalars.
-/
import Derived.Test.YtkkipogldcbokaaU8L
import Derived.Test.YtkkipogldcbokaaU8N
namespace Go.Proofs.Ytkkipogldcbokaa
open Go.RowKit
set_option maxHeartbeats 1000000 in
theorem law_Utf8Loose (s : ByteArray) (w : World) :
    Calls Try.prog 3 #[.string s] w fun e w' => e = .returned (.bool true) ∧ Below w.heap.size w w' := by
  by_cases h : s.size ≤ 4000
  · go_enter Try.func3, Try.ntmps3
    go_wp2_with fail
    refine (utf8_Loose s _ (by omega)).mono ?_
    rintro e w1 ⟨rfl, hb1⟩
    go_wp2_with fail
    refine (ref02_Loose s _ (by omega)).mono ?_
    rintro e w2 ⟨rfl, hb2⟩
    go_wp2_with fail
    refine (law02_wakes _).mono ?_
    rintro e w3 ⟨rfl, hb3⟩
    go_wp2
    go_ret
    exact ⟨rfl, (hb1.trans (hb2.mono hb1.size)).trans (hb3.mono (hb1.trans (hb2.mono hb1.size)).size)⟩
  · go_enter Try.func3, Try.ntmps3
    go_wp2_with fail
    refine (law02_wakes _).mono ?_
    rintro e w3 ⟨rfl, hb3⟩
    go_wp2
    go_ret
    exact ⟨rfl, hb3⟩
set_option maxHeartbeats 1000000 in
theorem law_Utf8Tells (r : Int) (s : ByteArray) (k : Int) (w : World) :
    Calls Try.prog 5 #[.int .i64 r, .string s, .int .i64 k] w fun e w' => e = .returned (.bool true) ∧ Below w.heap.size w w' := by
  by_cases h : s.size ≤ 4000
  · obtain ⟨es, hes⟩ : ∃ x, encS r = x := ⟨_, rfl⟩
    obtain ⟨is, his⟩ : ∃ x, isSc r = x := ⟨_, rfl⟩
    obtain ⟨ln, hln⟩ : ∃ x, sLen r = x := ⟨_, rfl⟩
    obtain ⟨a, ha⟩ : ∃ x, pR (nextR s k) = x := ⟨_, rfl⟩
    obtain ⟨n, hn⟩ : ∃ x, (nextR s k).2 = x := ⟨_, rfl⟩
    obtain ⟨o, ho⟩ : ∃ x, pOk (nextR s k) = x := ⟨_, rfl⟩
    have E := Lib.hid hes
    have I := Lib.hid his
    have L := Lib.hid hln
    have A := Lib.hid ha
    have N := Lib.hid hn
    have O := Lib.hid ho
    clear hes his hln ha hn ho
    go_enter Try.func5, Try.ntmps5
    go_wp2_with fail
    refine (utf8_Put r _).mono ?_
    rw [E.out, I.out]
    rintro e w1 ⟨rfl, hb1⟩
    go_wp2_with fail
    refine (ref02_Put r _).mono ?_
    rw [E.out, I.out]
    rintro e w2 ⟨rfl, hb2⟩
    go_wp2_with fail
    refine (utf8_Next s k _ (by omega)).mono ?_
    rw [A.out, N.out, O.out]
    rintro e w3 ⟨rfl, rfl⟩
    go_wp2_with fail
    refine (ref02_Next s k _ (by omega)).mono ?_
    rw [A.out, N.out, O.out]
    rintro e w3 ⟨rfl, rfl⟩
    go_wp2_with fail
    refine (utf8_Is r _).mono ?_
    rw [I.out]
    rintro e w3 ⟨rfl, rfl⟩
    go_wp2_with fail
    refine (ref02_Is r _).mono ?_
    rw [I.out]
    rintro e w3 ⟨rfl, rfl⟩
    go_wp2_with fail
    refine (utf8_Len r _).mono ?_
    rw [L.out]
    rintro e w3 ⟨rfl, hb3⟩
    go_wp2_with fail
    refine (ref02_Len r _).mono ?_
    rw [L.out]
    rintro e w4 ⟨rfl, rfl⟩
    go_wp2_with fail
    refine (law02_wakes _).mono ?_
    rintro e w4 ⟨rfl, hb4⟩
    go_wp2
    go_ret
    have h12 := hb1.trans (hb2.mono hb1.size)
    have h123 := h12.trans (hb3.mono h12.size)
    exact ⟨rfl, h123.trans (hb4.mono h123.size)⟩
  · go_enter Try.func5, Try.ntmps5
    go_wp2_with fail
    refine (law02_wakes _).mono ?_
    rintro e w3 ⟨rfl, hb3⟩
    go_wp2
    go_ret
    exact ⟨rfl, hb3⟩
set_option maxHeartbeats 1000000 in
theorem law_Utf8Scalars (s : ByteArray) (v : Value) (xs : List Int) (w : World) (hr : Reads w.heap.size w v (xs.map (Value.int .i64))) :
    Calls Try.prog 7 #[.string s, v] w fun e w' => e = .returned (.bool true) ∧ Below w.heap.size w w' := by
  have hr0 := hr
  obtain ⟨a, cap, rfl, hl, _⟩ := hr.open
  by_cases h : s.size ≤ 4000 ∧ xs.length ≤ 1000
  · obtain ⟨h1, h2⟩ := h
    obtain ⟨sc, hsc⟩ : ∃ x, scalL (nums s) = x := ⟨_, rfl⟩
    obtain ⟨ok, hok⟩ : ∃ x, okAll (nums s) = x := ⟨_, rfl⟩
    obtain ⟨ts, hts⟩ : ∃ x, textS xs = x := ⟨_, rfl⟩
    obtain ⟨ta, hta⟩ : ∃ x, scAll xs = x := ⟨_, rfl⟩
    have hscl : sc.length ≤ 4000 := by
      rw [← hsc]
      have := pieces_len (nums s).length (nums s)
      rw [nums_length] at this
      unfold scalL pieces
      split
      · rw [List.length_map, nums_length]; omega
      · simp
    have S := Lib.hid hsc
    have O := Lib.hid hok
    have T := Lib.hid hts
    have A := Lib.hid hta
    clear hsc hok hts hta
    unfold maxLen at hl
    go_enter Try.func7, Try.ntmps7
    go_wp2_with fail
    refine (utf8_Scalars s _ (by omega)).mono ?_
    rw [S.out, O.out]
    rintro e w1 ⟨v1, rfl, ho1, hb1⟩
    go_wp2_with fail
    refine (ref02_Scalars s _ (by omega)).mono ?_
    rw [S.out, O.out]
    rintro e w2 ⟨v2, rfl, ho2, hb2⟩
    have hb12 := hb1.trans (hb2.mono hb1.size)
    go_wp2_with fail
    refine (utf8_Text _ xs _ _ (hr0.below hb12 (Nat.le_refl _)) hb12.size (by omega)).mono ?_
    rw [T.out, A.out]
    rintro e w3 ⟨rfl, hb3⟩
    have hb13 := hb12.trans (hb3.mono hb12.size)
    go_wp2_with fail
    refine (ref02_Text _ xs _ _ (hr0.below hb13 (Nat.le_refl _)) hb13.size (by omega)).mono ?_
    rw [T.out, A.out]
    rintro e w4 ⟨rfl, hb4⟩
    have hb14 := hb13.trans (hb4.mono hb13.size)
    have r1 : Reads w4.heap.size w4 v1 _ := Reads.of_own (own_below (own_below (own_below ho1 hb2 (Nat.le_refl _)) hb3 (Nat.le_refl _)) hb4 (Nat.le_refl _)) (by unfold maxLen; omega)
    have r2 : Reads w4.heap.size w4 v2 _ := Reads.of_own (own_below (own_below ho2 hb3 (Nat.le_refl _)) hb4 (Nat.le_refl _)) (by unfold maxLen; omega)
    go_wp2_with fail
    refine (law02_same v1 v2 sc sc _ _ r1 r2 (Nat.le_refl _)).mono ?_
    rw [decide_eq_true (rfl : sc = sc)]
    rintro e w5 ⟨rfl, hb5⟩
    have hb15 := hb14.trans (hb5.mono hb14.size)
    go_wp2_with fail
    refine (utf8_Valid s _ (by omega)).mono ?_
    rw [O.out]
    rintro e w6 ⟨rfl, hb6⟩
    have hb16 := hb15.trans (hb6.mono hb15.size)
    go_wp2_with fail
    refine (ref02_Valid s _ (by omega)).mono ?_
    rw [O.out]
    rintro e w7 ⟨rfl, hb7⟩
    have hb17 := hb16.trans (hb7.mono hb16.size)
    go_wp2_with fail
    refine (law02_wakes _).mono ?_
    rintro e w8 ⟨rfl, hb8⟩
    go_wp2
    go_ret
    exact ⟨rfl, hb17.trans (hb8.mono hb17.size)⟩
  · unfold maxLen at hl
    by_cases h1 : s.size ≤ 4000
    · have h2 : 1000 < xs.length := by omega
      clear h
      go_enter Try.func7, Try.ntmps7
      go_wp2_with fail
      refine (law02_wakes _).mono ?_
      rintro e w3 ⟨rfl, hb3⟩
      go_wp2
      go_ret
      exact ⟨rfl, hb3⟩
    · clear h
      go_enter Try.func7, Try.ntmps7
      go_wp2_with fail
      refine (law02_wakes _).mono ?_
      rintro e w3 ⟨rfl, hb3⟩
      go_wp2
      go_ret
      exact ⟨rfl, hb3⟩
end Go.Proofs.Ytkkipogldcbokaa
