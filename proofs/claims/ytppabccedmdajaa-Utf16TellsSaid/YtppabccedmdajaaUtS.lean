/-
  The reference's Valid; Utf16Tells.
-/
import Derived.Test.YtppabccedmdajaaUtR
import Derived.Test.YtppabccedmdajaaUtO
namespace Go.Proofs.Ytppabccedmdajaa
open Go.RowKit
theorem ref03_Valid (big : Bool) (s : ByteArray) (w : World) (hs : s.size ≤ 100000) :
    Calls Try.prog 18 #[.string s, .bool big] w fun e w' => e = .returned (.bool (vB big s)) ∧ Below w.heap.size w w' := by
  have HD := fun w => ref03_Decode big s w hs
  obtain ⟨D, hD⟩ : ∃ D, dW big 0 (nums s) = D := ⟨_, rfl⟩
  have HV := Lib.hid (show vB big s = D.2.isEmpty by unfold vB; rw [hD])
  simp only [hD] at HD
  obtain ⟨T, hT⟩ : ∃ T, textS D.1 = T := ⟨_, rfl⟩
  simp only [hT] at HD
  clear hD hT
  obtain ⟨d1, d2⟩ := D
  simp only at HD HV
  cases d2 with
  | nil =>
    go_enter Try.func18, Try.ntmps18
    go_wp2_with fail
    refine (HD _).mono ?_
    rintro e w1 ⟨v, rfl, hr, hb⟩
    obtain ⟨a, c, rfl, -, -⟩ := (hr : Reads w1.heap.size w1 v ((([] : List Int)).map (Value.int .i64))).open
    clear hr
    go_wp2_with fail
    go_ret
    exact ⟨by rw [HV.out]; rfl, hb⟩
  | cons x r =>
    have hne : (((x :: r).length : Int) == 0) = false := by simp; omega
    obtain ⟨n, hn⟩ : ∃ n, (x :: r).length = n := ⟨_, rfl⟩
    rw [hn] at hne
    go_enter Try.func18, Try.ntmps18
    go_wp2_with fail
    refine (HD _).mono ?_
    rintro e w1 ⟨v, rfl, hr, hb⟩
    obtain ⟨a, c, rfl, -, -⟩ := hr.open
    rw [hn]
    clear hr
    go_wp2_with fail
    go_ret
    exact ⟨by rw [HV.out]; rfl, hb⟩
set_option maxRecDepth 100000 in
set_option maxHeartbeats 4000000 in
theorem law_Utf16Tells (b t : ByteArray) (big : Bool) (w : World) (hb : b.size ≤ 140737488351232) (ht : t.size ≤ 140737488351232) : Calls Try.prog 6 #[.string b, .string t, .bool big] w fun e w' => e = .returned (.bool true) ∧ Below w.heap.size w w' := by
  by_cases h1 : 2000 < b.size
  · have d1 := decide_eq_true (show (2000 : Int) < (b.size : Int) by omega)
    go_enter Try.func6, Try.ntmps6
    go_wp2_with fail
    refine (law03_wakes _).mono ?_
    rintro e w1 ⟨rfl, hb⟩
    go_wp2_with fail
    go_ret
    exact ⟨rfl, hb⟩
  · have d1 := decide_eq_false (show ¬ (2000 : Int) < (b.size : Int) by omega)
    by_cases h2 : 2000 < t.size
    · have d2 := decide_eq_true (show (2000 : Int) < (t.size : Int) by omega)
      go_enter Try.func6, Try.ntmps6
      go_wp2_with fail
      refine (law03_wakes _).mono ?_
      rintro e w1 ⟨rfl, hb⟩
      go_wp2_with fail
      go_ret
      exact ⟨rfl, hb⟩
    · have d2 := decide_eq_false (show ¬ (2000 : Int) < (t.size : Int) by omega)
      have DA := fun w => utf16_Decode big b w (by omega)
      have DB := fun w => ref03_Decode big b w (by omega)
      have EA := fun w => utf16_Encode big t w (by omega)
      have EB := fun w => ref03_Encode big t w (by omega)
      have VA := fun w => utf16_Valid big b w (by omega)
      have VB := fun w => ref03_Valid big b w (by omega)
      have UA := fun w => utf16_Units t w (by omega)
      have UB := fun w => ref03_Units t w (by omega)
      have hln := (dec_len' big (nums b)).2
      rw [nums_length] at hln
      obtain ⟨D, hD⟩ : ∃ D, dW big 0 (nums b) = D := ⟨_, rfl⟩
      rw [hD] at hln
      simp only [hD] at DA DB
      obtain ⟨S, hS⟩ : ∃ S, textS D.1 = S := ⟨_, rfl⟩
      simp only [hS] at DA DB
      obtain ⟨X, hX⟩ : ∃ X, encB big t = X := ⟨_, rfl⟩
      obtain ⟨c, hc⟩ : ∃ c, encC t = c := ⟨_, rfl⟩
      obtain ⟨vv, hvv⟩ : ∃ vv, vB big b = vv := ⟨_, rfl⟩
      obtain ⟨un, hun⟩ : ∃ un, unitsB t = un := ⟨_, rfl⟩
      simp only [hX, hc] at EA EB
      simp only [hvv] at VA VB
      simp only [hun] at UA UB
      obtain ⟨d1', bad⟩ := D
      simp only at DA DB hln
      have hbl : bad.length ≤ 1000000 := by omega
      have e1 : (S.toList == S.toList) = true := by simp
      have e2 : (X.toList == X.toList) = true := by simp
      have e3 : (c == c) = true := by simp
      have e4 : (vv == vv) = true := by simp
      have e5 : (un == un) = true := by simp
      clear hD hS hX hc hvv hun hln h1 h2
      go_enter Try.func6, Try.ntmps6
      go_wp2_with fail
      refine (DA _).mono ?_
      rintro e w1 ⟨v1, rfl, hr1, hb1⟩
      have hr1' := hr1.open
      obtain ⟨a1, c1, rfl, -, -⟩ := hr1'
      go_wp2_with fail
      refine (DB _).mono ?_
      rintro e w2 ⟨v2, rfl, hr2, hb2⟩
      have hr2' := hr2.open
      obtain ⟨a2, c2, rfl, -, -⟩ := hr2'
      have R1 := (hr1.below hb2 (Nat.le_refl _)).mono hb2.size
      have hb2 := hb1.trans (hb2.mono hb1.size)
      clear hr1
      go_wp2_with fail
      refine (EA _).mono ?_
      rintro e w3 ⟨rfl, hb3⟩
      have R1 := (R1.below hb3 (Nat.le_refl _)).mono hb3.size
      have R2 := (hr2.below hb3 (Nat.le_refl _)).mono hb3.size
      have hb3 := hb2.trans (hb3.mono hb2.size)
      go_wp2_with fail
      refine (EB _).mono ?_
      rintro e w4 ⟨rfl, hb4⟩
      have R1 := (R1.below hb4 (Nat.le_refl _)).mono hb4.size
      have R2 := (R2.below hb4 (Nat.le_refl _)).mono hb4.size
      have hb4 := hb3.trans (hb4.mono hb3.size)
      go_wp2_with fail
      refine (law03_ints w4.heap.size _ _ bad _ R1 R2 (Nat.le_refl _) hbl).mono ?_
      rintro e w5 ⟨rfl, hb5⟩
      have hb5 := hb4.trans (hb5.mono hb4.size)
      go_wp2_with fail
      refine (VA _).mono ?_
      rintro e w6 ⟨rfl, hb6⟩
      have hb6 := hb5.trans (hb6.mono hb5.size)
      go_wp2_with fail
      refine (VB _).mono ?_
      rintro e w7 ⟨rfl, hb7⟩
      have hb7 := hb6.trans (hb7.mono hb6.size)
      go_wp2_with fail
      refine (UA _).mono ?_
      rintro e w8 ⟨rfl, hb8⟩
      have hb8 := hb7.trans (hb8.mono hb7.size)
      go_wp2_with fail
      refine (UB _).mono ?_
      rintro e w9 ⟨rfl, hb9⟩
      have hb9 := hb8.trans (hb9.mono hb8.size)
      go_wp2_with fail
      refine (law03_wakes _).mono ?_
      rintro e w10 ⟨rfl, hb10⟩
      have hb10 := hb9.trans (hb10.mono hb9.size)
      go_wp2_with fail
      go_ret
      exact ⟨rfl, hb10⟩
end Go.Proofs.Ytppabccedmdajaa
