/-
  utf16.Valid; Utf16Back.
-/
import Derived.Test.YtppabccedmdajaaUtM
namespace Go.Proofs.Ytppabccedmdajaa
open Go.RowKit
theorem dec_len (big : Bool) : ∀ (f a : Nat) (l : List Int), (dec16 big f a l).1.length ≤ l.length ∧ (dec16 big f a l).2.length ≤ l.length
  | 0, _, _ => ⟨Nat.zero_le _, Nat.zero_le _⟩
  | _ + 1, _, [] => ⟨Nat.le_refl _, Nat.le_refl _⟩
  | _ + 1, _, [_] => ⟨Nat.le_refl _, Nat.le_refl _⟩
  | f + 1, a, x :: y :: r => by
    have hn := step16_n big x y r
    have ih := dec_len big f (a + (step16 big x y r).2.1) ((x :: y :: r).drop (step16 big x y r).2.1)
    rw [List.length_drop] at ih
    rw [dec16]
    simp only [List.length_cons] at ih ⊢
    refine ⟨by omega, ?_⟩
    split
    · omega
    · simp only [List.length_cons]
      omega
theorem textS_ok {xs : List Int} (h : scAll xs = true) : okAll (nums (textS xs)) = true ∧ scalL (nums (textS xs)) = xs := by
  rw [textS_yes h, nums_strOfNums _ (isBs_encAll xs)]
  exact ⟨okAll_encAll xs h, scalL_encAll xs h⟩
def vB (big : Bool) (s : ByteArray) : Bool := (dW big 0 (nums s)).2.isEmpty
theorem utf16_Valid (big : Bool) (s : ByteArray) (w : World) (hs : s.size ≤ 100000) :
    Calls Try.prog 17 #[.string s, .bool big] w fun e w' => e = .returned (.bool (vB big s)) ∧ Below w.heap.size w w' := by
  have HD := fun w => utf16_Decode big s w hs
  obtain ⟨D, hD⟩ : ∃ D, dW big 0 (nums s) = D := ⟨_, rfl⟩
  have HV := Lib.hid (show vB big s = D.2.isEmpty by unfold vB; rw [hD])
  simp only [hD] at HD
  obtain ⟨T, hT⟩ : ∃ T, textS D.1 = T := ⟨_, rfl⟩
  simp only [hT] at HD
  clear hD hT
  obtain ⟨d1, d2⟩ := D
  simp only at HD HV
  cases d2 with
  | nil =>
    go_enter Try.func17, Try.ntmps17
    go_wp2_with fail
    refine (HD _).mono ?_
    rintro e w1 ⟨v, rfl, hr, hb⟩
    obtain ⟨a, c, rfl, -, -⟩ := (hr : Reads w1.heap.size w1 v ((([] : List Int)).map (Value.int .i64))).open
    clear hr
    go_wp2_with fail
    go_ret
    exact ⟨by rw [HV.out]; rfl, hb⟩
  | cons x r =>
    have hne : (((x :: r).length : Int) == 0) = false := by simp; omega
    obtain ⟨n, hn⟩ : ∃ n, (x :: r).length = n := ⟨_, rfl⟩
    rw [hn] at hne
    go_enter Try.func17, Try.ntmps17
    go_wp2_with fail
    refine (HD _).mono ?_
    rintro e w1 ⟨v, rfl, hr, hb⟩
    obtain ⟨a, c, rfl, -, -⟩ := hr.open
    rw [hn]
    clear hr
    go_wp2_with fail
    go_ret
    exact ⟨by rw [HV.out]; rfl, hb⟩
set_option maxRecDepth 100000 in
set_option maxHeartbeats 4000000 in
theorem law_Utf16Back (t b : ByteArray) (big : Bool) (w : World) (ht : t.size ≤ 140737488351232) (hb : b.size ≤ 140737488351232) : Calls Try.prog 7 #[.string t, .string b, .bool big] w fun e w' => e = .returned (.bool true) ∧ Below w.heap.size w w' := by
  by_cases h1 : 2000 < b.size
  · have d1 := decide_eq_true (show (2000 : Int) < (b.size : Int) by omega)
    go_enter Try.func7, Try.ntmps7
    go_wp2_with fail
    refine (law03_wakes _).mono ?_
    rintro e w1 ⟨rfl, hb⟩
    go_wp2_with fail
    go_ret
    exact ⟨rfl, hb⟩
  · have d1 := decide_eq_false (show ¬ (2000 : Int) < (b.size : Int) by omega)
    by_cases h2 : 2000 < t.size
    · have d2 := decide_eq_true (show (2000 : Int) < (t.size : Int) by omega)
      go_enter Try.func7, Try.ntmps7
      go_wp2_with fail
      refine (law03_wakes _).mono ?_
      rintro e w1 ⟨rfl, hb⟩
      go_wp2_with fail
      go_ret
      exact ⟨rfl, hb⟩
    · have d2 := decide_eq_false (show ¬ (2000 : Int) < (t.size : Int) by omega)
      have ET := fun w => utf16_Encode big t w (by omega)
      have lt := encB_le big t
      have DB := fun w => utf16_Decode big b w (by omega)
      have VB := fun w => utf16_Valid big b w (by omega)
      have hvb : vB big b = (dW big 0 (nums b)).2.isEmpty := rfl
      have hsc := dW_sc big 0 (nums b) (nums_isBs b)
      have hln := dec_len big ((nums b).length + 1) 0 (nums b)
      have hend := enc_dW big 0 (nums b) (nums_isBs b)
      rw [nums_length] at hln
      obtain ⟨hln1, -⟩ := hln
      have hln1 : (dW big 0 (nums b)).1.length ≤ b.size := by unfold dW; rw [nums_length]; exact hln1
      obtain ⟨D, hD⟩ : ∃ D, dW big 0 (nums b) = D := ⟨_, rfl⟩
      rw [hD] at hvb hsc hln1 hend
      simp only [hD] at DB
      obtain ⟨os, oc⟩ := textS_ok hsc
      have hsz : (textS D.1).size ≤ 8000 := by
        rw [textS_yes hsc, strOfNums_size]
        have := encAll_len D.1
        omega
      obtain ⟨S, hS⟩ : ∃ S, textS D.1 = S := ⟨_, rfl⟩
      rw [hS] at os oc hsz
      simp only [hS] at DB
      have VS := fun w => ref02_Valid S w (by omega)
      have ES := fun w => utf16_Encode big S w (by omega)
      have cs := encC_yes os
      simp only [os] at VS
      simp only [cs] at ES
      have hES : D.2 = [] → encB big S = b := by
        intro h
        rw [encB_yes big os, oc, hend h, strOfNums_nums]
      obtain ⟨Y, hY⟩ : ∃ Y, encB big S = Y := ⟨_, rfl⟩
      rw [hY] at hES
      simp only [hY] at ES
      simp only [hvb] at VB
      clear hvb hsc hln1 hend hD os oc hS cs hY hsz
      obtain ⟨d1', bad⟩ := D
      simp only at DB VB hES
      cases ot : okAll (nums t) with
      | false =>
        have ct := encC_no ot
        simp only [ct] at ET
        obtain ⟨X, hX⟩ : ∃ X, encB big t = X := ⟨_, rfl⟩
        simp only [hX] at ET
        clear ot ct hX lt h1 h2
        cases bad with
        | nil =>
          simp only [List.isEmpty_nil] at VB
          have hY := hES rfl
          subst hY
          have e3 : (Y.toList == Y.toList) = true := by simp
          clear hES
          go_enter Try.func7, Try.ntmps7
          go_wp2_with fail
          refine (ET _).mono ?_
          rintro e w4 ⟨rfl, hb4⟩
          go_wp2_with fail
          refine (DB _).mono ?_
          rintro e w5 ⟨v5, rfl, hr5, hb5⟩
          have hb5 := hb4.trans (hb5.mono hb4.size)
          obtain ⟨a5, c5, rfl, -, -⟩ := (hr5 : Reads w5.heap.size w5 v5 ((([] : List Int)).map (Value.int .i64))).open
          clear hr5
          go_wp2_with fail
          refine (VB _).mono ?_
          rintro e w6 ⟨rfl, hb6⟩
          have hb6 := hb5.trans (hb6.mono hb5.size)
          go_wp2_with fail
          refine (VS _).mono ?_
          rintro e w7 ⟨rfl, hb7⟩
          have hb7 := hb6.trans (hb7.mono hb6.size)
          go_wp2_with fail
          refine (ES _).mono ?_
          rintro e w8 ⟨rfl, hb8⟩
          have hb8 := hb7.trans (hb8.mono hb7.size)
          go_wp2_with fail
          refine (law03_wakes _).mono ?_
          rintro e w9 ⟨rfl, hb9⟩
          have hb9 := hb8.trans (hb9.mono hb8.size)
          go_wp2_with fail
          go_ret
          exact ⟨rfl, hb9⟩
        | cons x r =>
          obtain ⟨m, hm⟩ : ∃ m, (x :: r).length = m := ⟨_, rfl⟩
          simp only [List.isEmpty_cons] at VB
          have hm0 : ((m : Int) == 0) = false := by rw [← hm]; simp; omega
          have hm1 := decide_eq_true (show (0 : Int) < (m : Int) by rw [← hm]; simp only [List.length_cons]; omega)
          have hm3 : 0 < m := by rw [← hm]; simp
          have hm4 : ¬ m = 0 := by omega
          clear hES
          go_enter Try.func7, Try.ntmps7
          go_wp2_with fail
          refine (ET _).mono ?_
          rintro e w4 ⟨rfl, hb4⟩
          go_wp2_with fail
          refine (DB _).mono ?_
          rintro e w5 ⟨v5, rfl, hr5, hb5⟩
          have hb5 := hb4.trans (hb5.mono hb4.size)
          obtain ⟨a5, c5, rfl, -, -⟩ := hr5.open
          rw [hm]
          clear hr5
          go_wp2_with fail
          refine (VB _).mono ?_
          rintro e w6 ⟨rfl, hb6⟩
          have hb6 := hb5.trans (hb6.mono hb5.size)
          go_wp2_with fail
          refine (VS _).mono ?_
          rintro e w7 ⟨rfl, hb7⟩
          have hb7 := hb6.trans (hb7.mono hb6.size)
          go_wp2_with fail
          refine (ES _).mono ?_
          rintro e w8 ⟨rfl, hb8⟩
          have hb8 := hb7.trans (hb8.mono hb7.size)
          go_wp2_with fail
          refine (law03_wakes _).mono ?_
          rintro e w9 ⟨rfl, hb9⟩
          have hb9 := hb8.trans (hb9.mono hb8.size)
          go_wp2_with fail
          go_ret
          exact ⟨rfl, hb9⟩
      | true =>
        have ct := encC_yes ot
        simp only [ct] at ET
        have hdx := dec_encB big ot
        have htx := textS_scal ot
        have hux := encB_size big t
        have hub := (unitsN_lo (scalL (nums t))).2
        have hsl := scalL_len (nums t)
        rw [nums_length] at hsl
        obtain ⟨X, hX⟩ : ∃ X, encB big t = X := ⟨_, rfl⟩
        rw [hX] at hdx hux lt
        simp only [hX] at ET
        have DX := fun w => utf16_Decode big X w (by omega)
        have VX := fun w => utf16_Valid big X w (by omega)
        have UT := fun w => utf16_Units t w (by omega)
        have hvx : vB big X = true := by unfold vB; rw [hdx]; rfl
        simp only [hdx, htx] at DX
        simp only [hvx] at VX
        obtain ⟨n, hn⟩ : ∃ n : Nat, unitsB t = n := ⟨_, rfl⟩
        have hn4 : n ≤ 4000 := by unfold unitsB at hn; omega
        rw [hn] at hux
        simp only [hn] at UT
        have e1 : (t.toList == t.toList) = true := by simp
        have e2 : ((X.size : Int) != 2 * (n : Int)) = false := by simp; omega
        clear ot ct hX lt h1 h2 hdx htx hub hsl hvx hn
        cases bad with
        | nil =>
          simp only [List.isEmpty_nil] at VB
          have hY := hES rfl
          subst hY
          have e3 : (Y.toList == Y.toList) = true := by simp
          clear hES
          go_enter Try.func7, Try.ntmps7
          go_wp2_with fail
          refine (ET _).mono ?_
          rintro e w1 ⟨rfl, hb1⟩
          go_wp2_with fail
          refine (DX _).mono ?_
          rintro e w2 ⟨v2, rfl, hr2, hb2⟩
          have hb2 := hb1.trans (hb2.mono hb1.size)
          obtain ⟨a2, c2, rfl, -, -⟩ := (hr2 : Reads w2.heap.size w2 v2 ((([] : List Int)).map (Value.int .i64))).open
          clear hr2
          go_wp2_with fail
          refine (VX _).mono ?_
          rintro e w3 ⟨rfl, hb3⟩
          have hb3 := hb2.trans (hb3.mono hb2.size)
          go_wp2_with fail
          refine (UT _).mono ?_
          rintro e w4 ⟨rfl, hb4⟩
          have hb4 := hb3.trans (hb4.mono hb3.size)
          go_wp2_with fail
          refine (DB _).mono ?_
          rintro e w5 ⟨v5, rfl, hr5, hb5⟩
          have hb5 := hb4.trans (hb5.mono hb4.size)
          obtain ⟨a5, c5, rfl, -, -⟩ := (hr5 : Reads w5.heap.size w5 v5 ((([] : List Int)).map (Value.int .i64))).open
          clear hr5
          go_wp2_with fail
          refine (VB _).mono ?_
          rintro e w6 ⟨rfl, hb6⟩
          have hb6 := hb5.trans (hb6.mono hb5.size)
          go_wp2_with fail
          refine (VS _).mono ?_
          rintro e w7 ⟨rfl, hb7⟩
          have hb7 := hb6.trans (hb7.mono hb6.size)
          go_wp2_with fail
          refine (ES _).mono ?_
          rintro e w8 ⟨rfl, hb8⟩
          have hb8 := hb7.trans (hb8.mono hb7.size)
          go_wp2_with fail
          refine (law03_wakes _).mono ?_
          rintro e w9 ⟨rfl, hb9⟩
          have hb9 := hb8.trans (hb9.mono hb8.size)
          go_wp2_with fail
          go_ret
          exact ⟨rfl, hb9⟩
        | cons x r =>
          obtain ⟨m, hm⟩ : ∃ m, (x :: r).length = m := ⟨_, rfl⟩
          simp only [List.isEmpty_cons] at VB
          have hm0 : ((m : Int) == 0) = false := by rw [← hm]; simp; omega
          have hm1 := decide_eq_true (show (0 : Int) < (m : Int) by rw [← hm]; simp only [List.length_cons]; omega)
          have hm3 : 0 < m := by rw [← hm]; simp
          have hm4 : ¬ m = 0 := by omega
          clear hES
          go_enter Try.func7, Try.ntmps7
          go_wp2_with fail
          refine (ET _).mono ?_
          rintro e w1 ⟨rfl, hb1⟩
          go_wp2_with fail
          refine (DX _).mono ?_
          rintro e w2 ⟨v2, rfl, hr2, hb2⟩
          have hb2 := hb1.trans (hb2.mono hb1.size)
          obtain ⟨a2, c2, rfl, -, -⟩ := (hr2 : Reads w2.heap.size w2 v2 ((([] : List Int)).map (Value.int .i64))).open
          clear hr2
          go_wp2_with fail
          refine (VX _).mono ?_
          rintro e w3 ⟨rfl, hb3⟩
          have hb3 := hb2.trans (hb3.mono hb2.size)
          go_wp2_with fail
          refine (UT _).mono ?_
          rintro e w4 ⟨rfl, hb4⟩
          have hb4 := hb3.trans (hb4.mono hb3.size)
          go_wp2_with fail
          refine (DB _).mono ?_
          rintro e w5 ⟨v5, rfl, hr5, hb5⟩
          have hb5 := hb4.trans (hb5.mono hb4.size)
          obtain ⟨a5, c5, rfl, -, -⟩ := hr5.open
          rw [hm]
          clear hr5
          go_wp2_with fail
          refine (VB _).mono ?_
          rintro e w6 ⟨rfl, hb6⟩
          have hb6 := hb5.trans (hb6.mono hb5.size)
          go_wp2_with fail
          refine (VS _).mono ?_
          rintro e w7 ⟨rfl, hb7⟩
          have hb7 := hb6.trans (hb7.mono hb6.size)
          go_wp2_with fail
          refine (ES _).mono ?_
          rintro e w8 ⟨rfl, hb8⟩
          have hb8 := hb7.trans (hb8.mono hb7.size)
          go_wp2_with fail
          refine (law03_wakes _).mono ?_
          rintro e w9 ⟨rfl, hb9⟩
          have hb9 := hb8.trans (hb9.mono hb8.size)
          go_wp2_with fail
          go_ret
          exact ⟨rfl, hb9⟩
end Go.Proofs.Ytppabccedmdajaa
