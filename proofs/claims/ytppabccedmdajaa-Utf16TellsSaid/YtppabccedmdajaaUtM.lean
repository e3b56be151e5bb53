/-
  Utf16Joined.
-/
import Derived.Test.YtppabccedmdajaaUtL
namespace Go.Proofs.Ytppabccedmdajaa
open Go.RowKit
theorem encB_yes {s : ByteArray} (big : Bool) (h : okAll (nums s) = true) : encB big s = strOfNums (enc16 big (scalL (nums s))) := if_pos h
theorem encC_yes {s : ByteArray} (h : okAll (nums s) = true) : encC s = 0 := if_pos h
theorem encC_no {s : ByteArray} (h : okAll (nums s) = false) : encC s = 70 := if_neg (by rw [h]; decide)
theorem encB_nums {s : ByteArray} (big : Bool) (h : okAll (nums s) = true) : nums (encB big s) = enc16 big (scalL (nums s)) := by
  rw [encB_yes big h]
  exact nums_strOfNums _ (enc16_bs big _ (ok_scal (nums s) (nums_isBs s) h).1)
theorem strOfNums_app (a b : List Int) : strOfNums (a ++ b) = strOfNums a ++ strOfNums b := by
  apply ByteArray.ext
  rw [ByteArray.data_append]
  simp [strOfNums]
theorem encB_app {a b : ByteArray} (big : Bool) (oa : okAll (nums a) = true) (ob : okAll (nums b) = true) : encB big (a ++ b) = encB big a ++ encB big b := by
  have h := ok_app (nums_isBs b) oa ob
  have hn : okAll (nums (a ++ b)) = true := by rw [nums_app]; exact h.1
  rw [encB_yes big hn, encB_yes big oa, encB_yes big ob, nums_app, h.2, enc16_append, strOfNums_app]
/-- what was encoded is decoded as the text. -/
theorem dec_encB {s : ByteArray} (big : Bool) (h : okAll (nums s) = true) : dW big 0 (nums (encB big s)) = (scalL (nums s), []) := by
  rw [encB_nums big h]
  exact dec_enc big _ 0 (ok_scal (nums s) (nums_isBs s) h).1
theorem textS_scal {s : ByteArray} (h : okAll (nums s) = true) : textS (scalL (nums s)) = s := by
  have hk := ok_scal (nums s) (nums_isBs s) h
  rw [textS_yes hk.1, hk.2, strOfNums_nums]
theorem encB_le (big : Bool) (s : ByteArray) : (encB big s).size ≤ 4 * s.size := by
  have h1 := encB_size big s
  have h2 := (unitsN_lo (scalL (nums s))).2
  have h3 := scalL_len (nums s)
  rw [nums_length] at h3
  unfold unitsB at h1
  omega
set_option maxRecDepth 100000 in
set_option maxHeartbeats 4000000 in
theorem law_Utf16Joined (a b : ByteArray) (big : Bool) (w : World) (ha : a.size ≤ 140737488351232) (hb : b.size ≤ 140737488351232) : Calls Try.prog 4 #[.string a, .string b, .bool big] w fun e w' => e = .returned (.bool true) ∧ Below w.heap.size w w' := by
  by_cases h1 : 2000 < a.size
  · have d1 := decide_eq_true (show (2000 : Int) < (a.size : Int) by omega)
    go_enter Try.func4, Try.ntmps4
    go_wp2_with fail
    refine (law03_wakes _).mono ?_
    rintro e w1 ⟨rfl, hb⟩
    go_wp2_with fail
    go_ret
    exact ⟨rfl, hb⟩
  · have d1 := decide_eq_false (show ¬ (2000 : Int) < (a.size : Int) by omega)
    by_cases h2 : 2000 < b.size
    · have d2 := decide_eq_true (show (2000 : Int) < (b.size : Int) by omega)
      go_enter Try.func4, Try.ntmps4
      go_wp2_with fail
      refine (law03_wakes _).mono ?_
      rintro e w1 ⟨rfl, hb⟩
      go_wp2_with fail
      go_ret
      exact ⟨rfl, hb⟩
    · have d2 := decide_eq_false (show ¬ (2000 : Int) < (b.size : Int) by omega)
      have EA := fun w => utf16_Encode big a w (by omega)
      have EB := fun w => utf16_Encode big b w (by omega)
      have la := encB_le big a
      have lb := encB_le big b
      cases oa : okAll (nums a) with
      | false =>
        have ca := encC_no oa
        simp only [ca] at EA
        obtain ⟨X, hX⟩ : ∃ X, encB big a = X := ⟨_, rfl⟩
        obtain ⟨Y, hY⟩ : ∃ Y, encB big b = Y := ⟨_, rfl⟩
        obtain ⟨c, hc⟩ : ∃ c, encC b = c := ⟨_, rfl⟩
        simp only [hX] at EA
        simp only [hY, hc] at EB
        clear hX hY hc oa ca la lb h1 h2
        go_enter Try.func4, Try.ntmps4
        go_wp2_with fail
        refine (EA _).mono ?_
        rintro e w1 ⟨rfl, hb1⟩
        go_wp2_with fail
        refine (EB _).mono ?_
        rintro e w2 ⟨rfl, hb2⟩
        have hb2 := hb1.trans (hb2.mono hb1.size)
        go_wp2_with fail
        refine (law03_wakes _).mono ?_
        rintro e w3 ⟨rfl, hb3⟩
        have hb3 := hb2.trans (hb3.mono hb2.size)
        go_wp2_with fail
        go_ret
        exact ⟨rfl, hb3⟩
      | true =>
        have ca := encC_yes oa
        simp only [ca] at EA
        cases ob : okAll (nums b) with
        | false =>
          have cb := encC_no ob
          simp only [cb] at EB
          obtain ⟨X, hX⟩ : ∃ X, encB big a = X := ⟨_, rfl⟩
          obtain ⟨Y, hY⟩ : ∃ Y, encB big b = Y := ⟨_, rfl⟩
          simp only [hX] at EA
          simp only [hY] at EB
          clear hX hY oa ob ca cb la lb h1 h2
          go_enter Try.func4, Try.ntmps4
          go_wp2_with fail
          refine (EA _).mono ?_
          rintro e w1 ⟨rfl, hb1⟩
          go_wp2_with fail
          refine (EB _).mono ?_
          rintro e w2 ⟨rfl, hb2⟩
          have hb2 := hb1.trans (hb2.mono hb1.size)
          go_wp2_with fail
          refine (law03_wakes _).mono ?_
          rintro e w3 ⟨rfl, hb3⟩
          have hb3 := hb2.trans (hb3.mono hb2.size)
          go_wp2_with fail
          go_ret
          exact ⟨rfl, hb3⟩
        | true =>
          have cb := encC_yes ob
          simp only [cb] at EB
          have hap := ok_app (nums_isBs b) oa ob
          have oc : okAll (nums (a ++ b)) = true := by rw [nums_app]; exact hap.1
          have hz := encB_app big oa ob
          have hdz := dec_encB big oc
          have htz := textS_scal oc
          have cc := encC_yes oc
          obtain ⟨C, hC⟩ : ∃ C, a ++ b = C := ⟨_, rfl⟩
          have hCs : C.size = a.size + b.size := by rw [← hC]; exact ByteArray.size_append
          obtain ⟨X, hX⟩ : ∃ X, encB big a = X := ⟨_, rfl⟩
          obtain ⟨Y, hY⟩ : ∃ Y, encB big b = Y := ⟨_, rfl⟩
          obtain ⟨Z, hZ⟩ : ∃ Z, X ++ Y = Z := ⟨_, rfl⟩
          rw [hC, hX, hY, hZ] at hz
          rw [hC, hz] at hdz
          rw [hC] at htz cc
          rw [hX] at la
          rw [hY] at lb
          have hZs : Z.size = X.size + Y.size := by rw [← hZ]; exact ByteArray.size_append
          have EC := fun w => utf16_Encode big C w (by omega)
          have DZ := fun w => utf16_Decode big Z w (by omega)
          simp only [hz, cc] at EC
          simp only [hdz, htz] at DZ
          simp only [hX] at EA
          simp only [hY] at EB
          have z1 : ¬ 9223372036854775807 < a.size + b.size := by omega
          have z2 : ¬ 9223372036854775807 < X.size + Y.size := by omega
          have e1 : (Z.toList == Z.toList) = true := by simp
          have e2 : (C.toList == C.toList) = true := by simp
          clear hX hY oa ob oc ca cb cc la lb h1 h2 hap hz hdz htz hCs hZs
          go_enter Try.func4, Try.ntmps4
          go_wp2_with fail
          refine (EA _).mono ?_
          rintro e w1 ⟨rfl, hb1⟩
          go_wp2_with fail
          refine (EB _).mono ?_
          rintro e w2 ⟨rfl, hb2⟩
          have hb2 := hb1.trans (hb2.mono hb1.size)
          go_wp2_with fail
          refine (EC _).mono ?_
          rintro e w3 ⟨rfl, hb3⟩
          have hb3 := hb2.trans (hb3.mono hb2.size)
          go_wp2_with fail
          refine (DZ _).mono ?_
          rintro e w4 ⟨v4, rfl, hr4, hb4⟩
          have hb4 := hb3.trans (hb4.mono hb3.size)
          obtain ⟨a4, c4, rfl, -, -⟩ := (hr4 : Reads w4.heap.size w4 v4 ((([] : List Int)).map (Value.int .i64))).open
          clear hr4
          go_wp2_with fail
          refine (law03_wakes _).mono ?_
          rintro e w5 ⟨rfl, hb5⟩
          have hb5 := hb4.trans (hb5.mono hb4.size)
          go_wp2_with fail
          go_ret
          exact ⟨rfl, hb5⟩
end Go.Proofs.Ytppabccedmdajaa
