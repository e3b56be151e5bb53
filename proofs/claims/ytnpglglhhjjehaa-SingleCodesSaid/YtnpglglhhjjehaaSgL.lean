/-
  The walks of layer 4's statements: wakes, SingleTells, SingleOnce.
-/
import Derived.Test.YtnpglglhhjjehaaSgE
namespace Go.Proofs.Ytnpglglhhjjehaa
open Go.RowKit
set_option maxHeartbeats 1000000 in
theorem law04_wakes (w : World) :
    Calls Try.prog 13 #[] w fun e w' => e = .returned (.bool true) ∧ Below w.heap.size w w' := by
  have E1 := Lib.hid (show scalR 3 128 = 8364 by decide +kernel)
  have E2 := Lib.hid (show scalR 4 192 = 1056 by decide +kernel)
  have E3 := Lib.hid (show byteOf 5 8364 = some 164 by decide +kernel)
  have E4 := Lib.hid (show isEnc 3 = true by decide +kernel)
  have E5 := Lib.hid (show isEnc 4 = true by decide +kernel)
  go_enter Try.func13, Try.ntmps13
  go_wp2_with fail
  refine (single_Scalar _ _ _ (by omega) (by omega)).mono ?_
  rw [E1.out, E4.out]
  rintro e w1 ⟨rfl, hb1⟩
  go_wp2_with fail
  refine (single_Scalar _ _ _ (by omega) (by omega)).mono ?_
  rw [E2.out, E5.out]
  rintro e w2 ⟨rfl, hb2⟩
  have hb12 := hb1.trans (hb2.mono hb1.size)
  go_wp2_with fail
  refine (single_Byte _ _ _).mono ?_
  rw [E3.out]
  rintro e w3 ⟨rfl, hb3⟩
  simp only [Option.getD_some, Option.isSome_some]
  go_wp2
  go_ret
  exact ⟨rfl, hb12.trans (hb3.mono hb12.size)⟩
theorem u8_lo {b : Int} (h : (Lit.int .u8 b).wf = true) : 0 ≤ b := by
  have h1 : (decide (IntKind.min .u8 ≤ b) && decide (b ≤ IntKind.max .u8)) = true := h
  have h2 : (IntKind.min .u8 : Int) = 0 := by decide
  rw [Bool.and_eq_true, decide_eq_true_eq, decide_eq_true_eq, h2] at h1
  exact h1.1
theorem u8_hi {b : Int} (h : (Lit.int .u8 b).wf = true) : b < 256 := by
  have h1 : (decide (IntKind.min .u8 ≤ b) && decide (b ≤ IntKind.max .u8)) = true := h
  have h2 : (IntKind.max .u8 : Int) = 255 := by decide
  rw [Bool.and_eq_true, decide_eq_true_eq, decide_eq_true_eq, h2] at h1
  omega
set_option maxHeartbeats 2000000 in
theorem law_SingleTells (e b r : Int) (w : World) (h0 : 0 ≤ b) (h1 : b < 256) :
    Calls Try.prog 3 #[.int .i8 e, .int .u8 b, .int .i64 r] w fun r w' => r = .returned (.bool true) ∧ Below w.heap.size w w' := by
  have hlen := tabL_le e
  obtain ⟨T, hT⟩ : ∃ T, tabL e = T := ⟨_, rfl⟩
  rw [hT] at hlen
  have HT := Lib.hid hT
  clear hT
  obtain ⟨x, hx⟩ : ∃ x, scalR e b = x := ⟨_, rfl⟩
  obtain ⟨k, hk⟩ : ∃ k, isEnc e = k := ⟨_, rfl⟩
  obtain ⟨y, hy⟩ : ∃ y, (byteOf e r).getD 0 = y := ⟨_, rfl⟩
  obtain ⟨z, hz⟩ : ∃ z, (byteOf e r).isSome = z := ⟨_, rfl⟩
  have HX := Lib.hid hx
  have HK := Lib.hid hk
  have HY := Lib.hid hy
  have HZ := Lib.hid hz
  clear hx hk hy hz
  go_enter Try.func3, Try.ntmps3
  go_wp2_with fail
  refine (single_Scalar _ _ _ h0 h1).mono ?_
  rw [HX.out, HK.out]
  rintro e' w1 ⟨rfl, hb1⟩
  go_wp2_with fail
  refine (ref04_Scalar _ _ _ h0 h1).mono ?_
  rw [HX.out, HK.out]
  rintro e' w2 ⟨rfl, hb2⟩
  have hb12 := hb1.trans (hb2.mono hb1.size)
  clear hb1 hb2
  go_wp2_with fail
  refine (single_Byte _ _ _).mono ?_
  rw [HY.out, HZ.out]
  rintro e' w3 ⟨rfl, hb3⟩
  have hb13 := hb12.trans (hb3.mono hb12.size)
  clear hb12 hb3
  go_wp2_with fail
  refine (ref04_Byte _ _ _).mono ?_
  rw [HY.out, HZ.out]
  rintro e' w4 ⟨rfl, hb4⟩
  have hb14 := hb13.trans (hb4.mono hb13.size)
  clear hb13 hb4
  go_wp2_with fail
  refine (single_Table _ _).mono ?_
  rw [HT.out]
  rintro e' w5 ⟨v, rfl, ho5, hb5⟩
  have hb15 := hb14.trans (hb5.mono hb14.size)
  have R5 := Reads.of_own ho5 (by unfold maxLen; omega)
  clear hb14 hb5 ho5
  go_wp2_with fail
  refine (ref04_Table _ _).mono ?_
  rw [HT.out]
  rintro e' w6 ⟨u, rfl, ho6, hb6⟩
  have hb16 := hb15.trans (hb6.mono hb15.size)
  have R6 := Reads.of_own ho6 (by unfold maxLen; omega)
  have R5' := R5.below hb6 (Nat.le_refl _)
  obtain ⟨a, cap, rfl, hl, hc⟩ := R5'.open
  obtain ⟨a', cap', rfl, hl', hc'⟩ := R6.open
  have hsz := hb6.size
  clear R5 R6 R5' hb15 hb6 ho6
  have hne : ((T.length : Int) != (T.length : Int)) = false := by simp
  go_wp2_with fail
  go_loopw [17] (fun i wr => ∃ k : Nat, i = .int .i64 k ∧ k ≤ T.length ∧ Below w6.heap.size w6 wr) (fun i _ => T.length - (intOf i).toNat)
  case atStart => exact ⟨0, rfl, by omega, Below.refl _ _⟩
  case round =>
    obtain ⟨k, rfl, hk, hb⟩ := hrel
    by_cases hlt : k < T.length
    · obtain ⟨b1, off, rfl, hbB, hcx⟩ := hc k hlt
      obtain ⟨b2, off', rfl, hbB', hcy⟩ := hc' k hlt
      obtain ⟨t, ht⟩ : ∃ t, T[k] = t := ⟨_, rfl⟩
      rw [ht] at hcx hcy
      have hcx1 := (hb.cell (p := ⟨b1, off + k, none⟩) (Nat.lt_of_lt_of_le hbB hsz)).trans hcx
      have hcy1 := (hb.cell (p := ⟨b2, off' + k, none⟩) (by simpa using hbB')).trans hcy
      have hki : (k : Int) < (T.length : Int) := by omega
      have htt : (t != t) = false := by simp
      clear hc hc' ht hcx hcy
      go_wp2_with fail
      go_quiet (fail)
      go_wp2
      exact ⟨⟨k + 1, by go_num, by omega, below_dn hb _⟩, by simp [intOf]; omega⟩
    · have hxx : (x == x) = true := by simp
      have hyy : (y == y) = true := by simp
      have hkk : (k == k) = true := by simp
      clear hc hc'
      go_wp2_with (go_at_call 13; refine (law04_wakes _).mono ?_; rintro e' w7 ⟨rfl, hb7⟩)
      go_ret
      exact ⟨rfl, (hb16.trans (hb.mono hb16.size)).trans (hb7.mono (hb16.trans (hb.mono hb16.size)).size)⟩
theorem findI_at {T : List Int} (hn : T.Nodup) (k : Nat) (h : k < T.length) (j : Int) : findI T j T[k] = some (j + k) := by
  rw [findI_take k j, List.drop_eq_getElem_cons h, findI, if_pos (by simp)]
  intro y hy hyx
  subst hyx
  have h1 : T = T.take k ++ T[k] :: T.drop (k + 1) := by rw [← List.drop_eq_getElem_cons h, List.take_append_drop]
  rw [h1] at hn
  exact (List.nodup_append.mp hn).2.2 _ hy _ (List.mem_cons_self ..) rfl
theorem tab_at {e : Int} (he : isEnc e = true) (k : Nat) (h : k < (tabL e).length) : (tabL e)[k] = encOf e k := by
  have := tabL_yes he
  simp [this]
theorem byte_enc {e : Int} (he : isEnc e = true) (b : Int) (h0 : 0 ≤ b) (h1 : b < 256) : byteOf e (encOf e b) = some b := by
  obtain ⟨k, rfl⟩ := Int.eq_ofNat_of_zero_le h0
  have hl : k < (tabL e).length := by rw [tabL_len he]; omega
  rw [← tab_at he k hl]
  have h := findI_at (tabL_nodup e) k hl 0
  rw [Int.zero_add] at h
  exact h
theorem enc_inj {e : Int} (he : isEnc e = true) (a b : Int) (h0 : 0 ≤ a) (h1 : a < 256) (h2 : 0 ≤ b) (h3 : b < 256) (h : encOf e a = encOf e b) : a = b := by
  have ha := byte_enc he a h0 h1
  rw [h, byte_enc he b h2 h3] at ha
  exact (Option.some.inj ha).symm
set_option maxHeartbeats 2000000 in
theorem law_SingleOnce (e p q : Int) (w : World) (h0 : 0 ≤ p) (h1 : p < 256) (g0 : 0 ≤ q) (g1 : q < 256) :
    Calls Try.prog 4 #[.int .i8 e, .int .u8 p, .int .u8 q] w fun r w' => r = .returned (.bool true) ∧ Below w.heap.size w w' := by
  cases he : isEnc e with
  | false =>
    have HT := Lib.hid (tabL_no he)
    have HX := Lib.hid (show scalR e p = 0 by unfold scalR; rw [he]; rfl)
    have HY := Lib.hid (show scalR e q = 0 by unfold scalR; rw [he]; rfl)
    have HK := Lib.hid he
    have hn : ¬ (e = 3 ∨ e = 4 ∨ e = 5) := of_decide_eq_false he
    have c3 : (e == 3) = false := by simp; omega
    have c4 : (e == 4) = false := by simp; omega
    have c5 : (e == 5) = false := by simp; omega
    clear he hn
    go_enter Try.func4, Try.ntmps4
    go_wp2_with fail
    refine (single_Scalar _ _ _ h0 h1).mono ?_
    rw [HX.out, HK.out]
    rintro e' w1 ⟨rfl, hb1⟩
    go_wp2_with fail
    refine (single_Scalar _ _ _ g0 g1).mono ?_
    rw [HY.out, HK.out]
    rintro e' w2 ⟨rfl, hb2⟩
    have hb12 := hb1.trans (hb2.mono hb1.size)
    clear hb1 hb2
    go_wp2_with fail
    refine (single_Table _ _).mono ?_
    rw [HT.out]
    rintro e' w3 ⟨v, rfl, ho3, hb3⟩
    have hb13 := hb12.trans (hb3.mono hb12.size)
    obtain ⟨a, cap, rfl, hl, hc⟩ := (Reads.of_own ho3 (by unfold maxLen; simp)).open
    clear hb12 hb3 ho3 hc
    go_wp2_with (go_at_call 13; refine (law04_wakes _).mono ?_; rintro e' w4 ⟨rfl, hb4⟩)
    go_ret
    exact ⟨rfl, hb13.trans (hb4.mono hb13.size)⟩
  | true =>
    have hlen := tabL_len he
    have hc3 : (e == 3 || (e == 4 || e == 5)) = true := by have := of_decide_eq_true he; simpa using this
    have hbe := byte_enc he p h0 h1
    obtain ⟨k, rfl⟩ := Int.eq_ofNat_of_zero_le h0
    have hkl : k < (tabL e).length := by omega
    have hat := tab_at he k hkl
    have hinj : ((encOf e k == encOf e q) == ((k : Int) == q)) = true := by
      by_cases h : (k : Int) = q
      · subst h; simp
      · have : ¬ encOf e k = encOf e q := fun hh => h (enc_inj he _ _ h0 h1 g0 g1 hh)
        have e1 : (encOf e k == encOf e q) = false := by simpa using this
        have e2 : ((k : Int) == q) = false := by simpa using h
        rw [e1, e2]; rfl
    have hsx : scalR e k = encOf e k := by unfold scalR; rw [he]; rfl
    have hsy : scalR e q = encOf e q := by unfold scalR; rw [he]; rfl
    obtain ⟨T, hT⟩ : ∃ T, tabL e = T := ⟨_, rfl⟩
    obtain ⟨x, hx⟩ : ∃ x, encOf e k = x := ⟨_, rfl⟩
    obtain ⟨y, hy⟩ : ∃ y, encOf e q = y := ⟨_, rfl⟩
    rw [hx] at hsx hbe
    rw [hy] at hsy
    rw [hx, hy] at hinj
    simp only [hT, hx] at hat hkl hlen
    have hkT : k < T.length := by omega
    have hat' : T[k]'hkT = x := hat
    clear hat
    have hat : T[k]'hkT = x := hat'
    clear hat'
    have HT := Lib.hid hT
    have HX := Lib.hid hsx
    have HY := Lib.hid hsy
    have HB := Lib.hid hbe
    have HK := Lib.hid he
    have hxx : (x == x) = true := by simp
    have hkk : ((k : Int) == (k : Int)) = true := by simp
    have hlb : ((T.length : Int) == 256) = true := by simp; omega
    clear hT hx hy hsx hsy hbe
    have hcase := of_decide_eq_true he
    clear he
    rcases hcase with rfl | rfl | rfl
    all_goals
      go_enter Try.func4, Try.ntmps4
      go_wp2_with fail
      refine (single_Scalar _ _ _ h0 h1).mono ?_
      rw [HX.out, HK.out]
      rintro e' w1 ⟨rfl, hb1⟩
      go_wp2_with fail
      refine (single_Scalar _ _ _ g0 g1).mono ?_
      rw [HY.out, HK.out]
      rintro e' w2 ⟨rfl, hb2⟩
      have hb12 := hb1.trans (hb2.mono hb1.size)
      clear hb1 hb2
      go_wp2_with fail
      refine (single_Table _ _).mono ?_
      rw [HT.out]
      rintro e' w3 ⟨v, rfl, ho3, hb3⟩
      have hb13 := hb12.trans (hb3.mono hb12.size)
      have R3 := Reads.of_own ho3 (by unfold maxLen; omega)
      clear hb12 hb3 ho3
      obtain ⟨a, cap, rfl, hl, hc⟩ := R3.open
      obtain ⟨b1, off, rfl, hbB, hcx⟩ := hc k hkT
      rw [hat] at hcx
      clear hc R3
      go_wp2_with fail
      refine (single_Byte _ _ _).mono ?_
      rw [HB.out]
      rintro e' w4 ⟨rfl, hb4⟩
      simp only [Option.getD_some, Option.isSome_some]
      have hcx1 := (hb4.cell (p := ⟨b1, off + k, none⟩) (by simpa using hbB)).trans hcx
      have hb14 := hb13.trans (hb4.mono hb13.size)
      have hki : (k : Int) < (T.length : Int) := by omega
      clear hb4 hb13 hcx
      go_wp2_with (go_at_call 13; refine (law04_wakes _).mono ?_; rintro e' w5 ⟨rfl, hb5⟩)
      go_ret
      exact ⟨rfl, hb14.trans (hb5.mono hb14.size)⟩
end Go.Proofs.Ytnpglglhhjjehaa
