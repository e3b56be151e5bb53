/-
  The walks of layer 13's statements: RefsJoined, RefsBack.
-/
import Derived.Test.YtkdkoondchbekaaRfL
namespace Go.Proofs.Ytkdkoondchbekaa
open Go.RowKit Go.Shelf
attribute [local go_sem] Oper.semAt_some
theorem strV_shape (r : Sum Nat (List Int)) : ∃ a b c, strV r = .tuple #[.string a, .int .i64 b, .int .i64 c] := by cases r <;> exact ⟨_, _, _, rfl⟩
theorem strOfNums_appR (x y : List Int) : strOfNums (x ++ y) = strOfNums x ++ strOfNums y := by
  apply ByteArray.ext
  simp [strOfNums, ByteArray.data_append]
set_option maxHeartbeats 2000000 in
theorem law_RefsJoined (a b : ByteArray) (w : World) (m : Int) (hm : MaxAt w m) :
    Calls Try.prog 8 #[.string a, .string b] w fun e w' => e = .returned (.bool true) ∧ Below w.heap.size w w' := by
  have HW := Lib.hid (fun (u : World) (h : MaxAt u m) => law13_wakes u m h)
  have HM := Lib.hid hm
  clear hm
  have hB := Below.refl w.heap.size w
  by_cases h1 : 2000 < a.size
  · go_enter Try.func8, Try.ntmps8
    go_wp2_with (go_at_call 9; refine (HW.out _ (HM.out.below hB)).mono ?_; rintro e w' ⟨rfl, hb1⟩; replace hB := bt hB hb1)
    go_ret
    exact ⟨rfl, hB⟩
  by_cases h2 : 2000 < b.size
  · go_enter Try.func8, Try.ntmps8
    go_wp2_with (go_at_call 9; refine (HW.out _ (HM.out.below hB)).mono ?_; rintro e w' ⟨rfl, hb1⟩; replace hB := bt hB hb1)
    go_ret
    exact ⟨rfl, hB⟩
  obtain ⟨AB, hAB⟩ : ∃ AB : ByteArray, a ++ b = AB := ⟨_, rfl⟩
  have hsz : a.size + b.size ≤ 4000 := by omega
  have hABs : AB.size = a.size + b.size := by rw [← hAB, ByteArray.size_append]
  have hnAB : nums AB = nums a ++ nums b := by rw [← hAB, nums_appR]
  have S1 := Lib.hid (fun u => refs_Strict a (by omega) u)
  have S2 := Lib.hid (fun u => refs_Strict b (by omega) u)
  have S3 := Lib.hid (fun u => refs_Strict AB (by omega) u)
  cases hA : strictN 0 (nums a) with
  | inl k =>
    obtain ⟨v1, v2, v3, e1⟩ := strV_shape (strictN 0 (nums b))
    obtain ⟨u1, u2, u3, e2⟩ := strV_shape (strictN 0 (nums AB))
    rw [hA] at S1
    rw [e1] at S2
    rw [e2] at S3
    unfold strV at S1
    dsimp only at S1
    clear hA e1 e2 hnAB
    go_enter Try.func8, Try.ntmps8
    go_wp2_with fail
    refine (S1.out _).mono ?_
    rintro e w1 ⟨rfl, hb1⟩
    go_wp2_with fail
    refine (S2.out _).mono ?_
    rintro e w2 ⟨rfl, hb2⟩
    go_wp2_with fail
    refine (S3.out _).mono ?_
    rintro e w3 ⟨rfl, hb3⟩
    replace hB := bt (bt (bt hB hb1) hb2) hb3
    go_wp2_with fail
    refine (HW.out _ (HM.out.below hB)).mono ?_
    rintro e w' ⟨rfl, hb9⟩
    replace hB := bt hB hb9
    go_wp2
    go_ret
    exact ⟨rfl, hB⟩
  | inr x =>
    have hj := strict_app _ (nums a) (nums b) 0 x (Nat.le_refl _) hA
    rw [strict_shift _ (nums b) 0 (nums a).length (Nat.le_refl _), nums_length, ← hnAB] at hj
    rw [hA] at S1
    cases hBb : strictN 0 (nums b) with
    | inl k =>
      have hj : strictN 0 (nums AB) = .inl (k + a.size) := by rw [hj, hBb]; rfl
      rw [hBb] at S2
      rw [hj] at S3
      have hk : k ≤ b.size := by
        have h := (both_bad htmN _ (nums b) 0 k (Nat.le_refl _) hBb).2.1
        have := (List.getElem?_eq_some_iff.1 h).1
        rw [nums_length] at this; omega
      have hcast : ((k + a.size : Nat) : Int) = (a.size : Int) + (k : Int) := by omega
      unfold strV at S1 S2 S3
      dsimp only at S1 S2 S3
      rw [hcast] at S3
      clear hA hBb hj hnAB hcast
      go_enter Try.func8, Try.ntmps8
      go_wp2_with fail
      refine (S1.out _).mono ?_
      rintro e w1 ⟨rfl, hb1⟩
      go_wp2_with fail
      refine (S2.out _).mono ?_
      rintro e w2 ⟨rfl, hb2⟩
      go_wp2_with fail
      refine (S3.out _).mono ?_
      rintro e w3 ⟨rfl, hb3⟩
      replace hB := bt (bt (bt hB hb1) hb2) hb3
      go_wp2_with fail
      refine (HW.out _ (HM.out.below hB)).mono ?_
      rintro e w' ⟨rfl, hb9⟩
      replace hB := bt hB hb9
      go_wp2
      go_ret
      exact ⟨rfl, hB⟩
    | inr y =>
      have hj : strictN 0 (nums AB) = .inr (x ++ y) := by rw [hj, hBb]; rfl
      rw [hBb] at S2
      rw [hj] at S3
      have hxl := strict_len hA
      have hyl := strict_len hBb
      rw [nums_length] at hxl hyl
      obtain ⟨X, hX⟩ : ∃ X, strOfNums x = X := ⟨_, rfl⟩
      obtain ⟨Y, hY⟩ : ∃ X, strOfNums y = X := ⟨_, rfl⟩
      obtain ⟨Z, hZ⟩ : ∃ X, strOfNums (x ++ y) = X := ⟨_, rfl⟩
      have hXY : X ++ Y = Z := by rw [← hX, ← hY, ← hZ, strOfNums_appR]
      have hXs : X.size + Y.size ≤ 100000 := by rw [← hX, ← hY, strOfNums_size, strOfNums_size]; omega
      unfold strV at S1 S2 S3
      dsimp only at S1 S2 S3
      rw [hX] at S1
      rw [hY] at S2
      rw [hZ] at S3
      obtain ⟨EA, hEA⟩ : ∃ X, strOfNums (escN false (nums a)) = X := ⟨_, rfl⟩
      obtain ⟨EB, hEB⟩ : ∃ X, strOfNums (escN false (nums b)) = X := ⟨_, rfl⟩
      obtain ⟨EZ, hEZ⟩ : ∃ X, strOfNums (escN false (nums AB)) = X := ⟨_, rfl⟩
      have hEE : EA ++ EB = EZ := by rw [← hEA, ← hEB, ← hEZ, hnAB, esc_app, strOfNums_appR]
      have hEs : EA.size + EB.size ≤ 100000 := by
        have i1 := esc_len6 false (nums a)
        have i2 := esc_len6 false (nums b)
        rw [nums_length] at i1 i2
        rw [← hEA, ← hEB, strOfNums_size, strOfNums_size]; omega
      have E1 := Lib.hid (fun u => by have h := refs_Escape a false (by omega) u; rw [hEA] at h; exact h)
      have E2 := Lib.hid (fun u => by have h := refs_Escape b false (by omega) u; rw [hEB] at h; exact h)
      have E3 := Lib.hid (fun u => by have h := refs_Escape AB false (by omega) u; rw [hEZ] at h; exact h)
      clear hA hBb hj hnAB hX hY hZ hEA hEB hEZ
      go_enter Try.func8, Try.ntmps8
      go_wp2_with fail
      refine (S1.out _).mono ?_
      rintro e w1 ⟨rfl, hb1⟩
      go_wp2_with fail
      refine (S2.out _).mono ?_
      rintro e w2 ⟨rfl, hb2⟩
      go_wp2_with fail
      refine (S3.out _).mono ?_
      rintro e w3 ⟨rfl, hb3⟩
      replace hB := bt (bt (bt hB hb1) hb2) hb3
      go_wp2_with fail
      refine (E3.out _).mono ?_
      rintro e w4 ⟨rfl, hb4⟩
      go_wp2_with fail
      refine (E1.out _).mono ?_
      rintro e w5 ⟨rfl, hb5⟩
      go_wp2_with fail
      refine (E2.out _).mono ?_
      rintro e w6 ⟨rfl, hb6⟩
      replace hB := bt (bt (bt hB hb4) hb5) hb6
      go_wp2_with fail
      refine (HW.out _ (HM.out.below hB)).mono ?_
      rintro e w' ⟨rfl, hb9⟩
      replace hB := bt hB hb9
      go_wp2
      go_ret
      exact ⟨rfl, hB⟩
/-- a text's bytes as a fresh row. -/
theorem conv_row (w : World) (s : ByteArray) : ∃ p cap w2, (convert 9 37 (.string s)).run Try.prog w = .ok (.slice (some ⟨p, 0, none⟩) s.size cap) w2 ∧ LowRow w2 p (nums s) ∧ Below w.heap.size w w2 :=
  ⟨_, _, _, Lib.run_convert_string_bytes (P := Try.prog) w 9 37 5 s Try.underlying9 Try.underlying37 Try.underlying5, LowRow.made w 5 s, bytes_below w 5 s⟩
set_option maxRecDepth 100000 in
set_option maxHeartbeats 2000000 in
theorem law_RefsBack (s : ByteArray) (q : Bool) (w : World) (m : Int) (hm : MaxAt w m) :
    Calls Try.prog 5 #[.string s, .bool q] w fun e w' => e = .returned (.bool true) ∧ Below w.heap.size w w' := by
  have HW := Lib.hid (fun (u : World) (h : MaxAt u m) => law13_wakes u m h)
  have HM := Lib.hid hm
  clear hm
  have hB := Below.refl w.heap.size w
  by_cases h1 : 2000 < s.size
  · go_enter Try.func5, Try.ntmps5
    go_wp2_with (go_at_call 9; refine (HW.out _ (HM.out.below hB)).mono ?_; rintro e w' ⟨rfl, hb1⟩; replace hB := bt hB hb1)
    go_ret
    exact ⟨rfl, hB⟩
  obtain ⟨x, hx⟩ : ∃ x, strOfNums (escN q (nums s)) = x := ⟨_, rfl⟩
  have hnx : nums x = escN q (nums s) := by rw [← hx, nums_strOfNums _ (esc_isBs q (nums_isBs s))]
  have hl6 := esc_len6 q (nums s)
  have hl1 := esc_len q (nums s)
  rw [← hnx, nums_length, nums_length] at hl6 hl1
  have hst : strictN 0 (nums x) = .inr (nums s) := by rw [hnx]; exact esc_back q _ 0 (nums_isBs s)
  have hmem := esc_mem q (nums s)
  rw [← hnx] at hmem
  have E1 := Lib.hid (fun u => by have h := refs_Escape s q (by omega) u; rw [hx] at h; exact h)
  have S1 := Lib.hid (fun u => by have h := refs_Strict x (by omega) u; rw [hst] at h; exact h)
  unfold strV at S1
  dsimp only at S1
  rw [strOfNums_nums] at S1
  clear hx hnx hst
  have hxs : x.size ≤ 12000 := by omega
  have hge : (x.size : Int) ≥ (s.size : Int) := by omega
  go_enter Try.func5, Try.ntmps5
  go_wp2_with first
    | (go_at_call 15; refine (E1.out _).mono ?_; rintro e w1 ⟨rfl, hb1⟩)
    | (go_at_call 10; refine (S1.out _).mono ?_; rintro e w2 ⟨rfl, hb2⟩; obtain ⟨p, cap, w3, hcv, hrow, hbl⟩ := conv_row w2 x)
  replace hB := bt (bt hB (bt hb1 hb2)) hbl
  go_loop [27] (fun i => ∃ k : Nat, i = .int .i64 k ∧ k ≤ x.size) (fun i => x.size - (intOf i).toNat)
  case atStart => exact ⟨0, rfl, by omega⟩
  case round =>
    obtain ⟨k, rfl, hk⟩ := hrel
    by_cases hlt : k < x.size
    · have hca := hrow.cellAt k (by rw [nums_length]; exact hlt)
      obtain ⟨c, hc⟩ : ∃ c : Int, (x[k].toNat : Int) = c := ⟨_, rfl⟩
      rw [nums_at x k hlt, hc] at hca
      obtain ⟨m1, m2, m3, m4⟩ := hmem c (by rw [← hc, ← nums_at x k hlt]; exact List.getElem_mem _)
      have q1 : (c == 60) = false := by simpa using m1
      have q2 : (c == 62) = false := by simpa using m2
      have q3 : (c == 13) = false := by simpa using m3
      clear hc m1 m2 m3
      cases q with
      | false =>
        go_wp2
        exact ⟨⟨k + 1, by go_num, by omega⟩, by simp [intOf]; omega⟩
      | true =>
        obtain ⟨m5, m6, m7⟩ := m4 rfl
        have q4 : (c == 34) = false := by simpa using m5
        have q5 : (c == 9) = false := by simpa using m6
        have q6 : (c == 10) = false := by simpa using m7
        clear m4 m5 m6 m7
        go_wp2
        exact ⟨⟨k + 1, by go_num, by omega⟩, by simp [intOf]; omega⟩
    · go_wp2_with (go_at_call 9; refine (HW.out _ (HM.out.below hB)).mono ?_; rintro e w' ⟨rfl, hb9⟩; replace hB := bt hB hb9)
      go_ret
      exact ⟨rfl, hB⟩
end Go.Proofs.Ytkdkoondchbekaa
