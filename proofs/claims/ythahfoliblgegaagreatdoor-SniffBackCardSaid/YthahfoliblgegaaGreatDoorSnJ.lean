/-
  Layer 8: the law SniffOrder.
-/
import Derived.Test.YthahfoliblgegaaGreatDoorSnH
namespace Go.Proofs.YthahfoliblgegaaGreatDoor
open Go.RowKit
theorem wf_i8 {x : Int} (h : (Lit.int .i8 x).wf = true) : -128 ≤ x ∧ x ≤ 127 := by
  have h1 : (decide (IntKind.min .i8 ≤ x) && decide (x ≤ IntKind.max .i8)) = true := h
  have h2 : (IntKind.min .i8 : Int) = -128 := by decide
  have h3 : (IntKind.max .i8 : Int) = 127 := by decide
  rw [Bool.and_eq_true, decide_eq_true_eq, decide_eq_true_eq, h2, h3] at h1
  exact h1
theorem law_SniffCodesF (enc : Int) (b text : ByteArray) (w : World) (m : Int) (hm : MaxAt w m) (ht : TabAt w) (hw : (Lit.int .i8 enc).wf = true) (h1 : b.size ≤ 140737488351232) (h2 : text.size ≤ 140737488351232) :
    Calls Tryz.prog 5 #[.int .i8 enc, .string b, .string text] w fun e w' => e = .returned (.bool true) ∧ Below w.heap.size w w' := law_SniffCodes enc b text w m hm ht (wf_i8 hw) h1 h2
def kcB : ByteArray := ⟨#[116, 101, 120, 116, 47, 120, 109, 108, 59, 99, 104, 97, 114, 115, 101, 116, 61, 99, 121, 114, 105, 108, 108, 105, 99]⟩
theorem kc_chs : chsK kcB = (⟨#[99, 121, 114, 105, 108, 108, 105, 99]⟩, true) := by decide +kernel
theorem kc_lab : labS ⟨#[99, 121, 114, 105, 108, 108, 105, 99]⟩ = (4, true) := by decide +kernel
theorem nums_app8 (x y : ByteArray) : nums (x ++ y) = nums x ++ nums y := by
  unfold nums
  rw [ByteArray.data_append, Array.toList_append, List.map_append]
theorem enc_le (kind a : ByteArray) : encP kind ((⟨#[255, 254]⟩ : ByteArray) ++ a) = (1, 2, noneK kind) := by
  have h : mrkV (nums ((⟨#[255, 254]⟩ : ByteArray) ++ a)) = (1, 2, true) := by
    rw [nums_app8]
    rfl
  unfold encP
  rw [h]
  rfl
theorem mrkV_small (l : List Int) (h : (mrkV l).2.2 = true) : (mrkV l).1 ≤ 2 ∧ (mrkV l).2.1 ≠ 0 := by
  unfold mrkV markD at *
  by_cases h1 : [239, 187, 191].isPrefixOf l = true
  · rw [if_pos h1]; simp
  · rw [if_neg h1] at *
    by_cases h2 : [255, 254].isPrefixOf l = true
    · rw [if_pos h2]; simp
    · rw [if_neg h2] at *
      by_cases h3 : [254, 255].isPrefixOf l = true
      · rw [if_pos h3]; simp
      · rw [if_neg h3] at h; cases h
theorem enc_kc (b : ByteArray) : ((encP kcB b).2.1 = 0 → (encP kcB b).1 = 4) ∧ ((encP kcB b).1 = 4 ∨ (encP kcB b).1 ≤ 2) := by
  unfold encP
  cases h : (mrkV (nums b)).2.2 with
  | true =>
    have := mrkV_small _ h
    rw [if_pos rfl]
    exact ⟨fun e => absurd e this.2, .inr this.1⟩
  | false =>
    rw [if_neg (by decide)]
    have : (oneK kcB b (noneK kcB)).1 = 4 := by
      unfold oneK
      rw [kc_chs, if_pos rfl, kc_lab]
      rfl
    exact ⟨fun _ => this, .inl this⟩
theorem thrK_app (b : ByteArray) (l : List Int) : ∃ t, (thrK b l).2 = l ++ t ∧ ∀ x ∈ t, x = 1 := by
  unfold thrK
  split
  · split
    · exact ⟨[], by simp, fun _ h => by cases h⟩
    · exact ⟨[1], rfl, fun x h => List.mem_singleton.1 h⟩
  · exact ⟨[], by simp, fun _ h => by cases h⟩
theorem twoK_app (b : ByteArray) (l : List Int) : ∃ t, (twoK b l).2 = l ++ t ∧ ∀ x ∈ t, x = 1 := by
  unfold twoK
  split
  · exact ⟨[], by simp, fun _ h => by cases h⟩
  · exact thrK_app b l
theorem oneK_app (k b : ByteArray) (l : List Int) : ∃ t, (oneK k b l).2 = l ++ t ∧ ∀ x ∈ t, x = 1 := by
  unfold oneK
  split
  · split
    · exact ⟨[], by simp, fun _ h => by cases h⟩
    · obtain ⟨t, h1, h2⟩ := twoK_app b (l ++ [1])
      refine ⟨1 :: t, by rw [h1]; simp, fun x h => ?_⟩
      rcases List.mem_cons.1 h with rfl | h
      · rfl
      · exact h2 x h
  · exact twoK_app b l
theorem encP_app (k b : ByteArray) : ∃ t, (encP k b).2.2 = noneK k ++ t ∧ ∀ x ∈ t, x = 1 := by
  unfold encP
  split
  · exact ⟨[], by simp, fun _ h => by cases h⟩
  · exact oneK_app k b _
/-- the first reason is that of the Content-Type, or there is none, or another. -/
theorem first_media (k b : ByteArray) : ((encP k b).2.2 = [] ∧ xmlK k = true) ∨ ∃ c r, (encP k b).2.2 = c :: r ∧ ((c = 0 ∧ xmlK k = false) ∨ (c = 1 ∧ xmlK k = true)) := by
  obtain ⟨t, h1, h2⟩ := encP_app k b
  rw [h1]
  unfold noneK
  cases xmlK k with
  | true =>
    cases t with
    | nil => exact .inl ⟨rfl, rfl⟩
    | cons c r => exact .inr ⟨c, r, rfl, .inr ⟨h2 c (List.mem_cons_self ..), rfl⟩⟩
  | false => exact .inr ⟨0, t, rfl, .inl ⟨rfl, rfl⟩⟩
set_option maxRecDepth 100000 in
set_option maxHeartbeats 8000000 in
theorem law_SniffOrder (kind a b : ByteArray) (w : World) (m : Int) (hm : MaxAt w m) (ht : TabAt w) (h1 : kind.size ≤ 140737488351232) (h2 : a.size ≤ 140737488351232) (h3 : b.size ≤ 140737488351232) :
    Calls Tryz.prog 4 #[.string kind, .string a, .string b] w fun e w' => e = .returned (.bool true) ∧ Below w.heap.size w w' := by
  have L0 := LwI.start hm ht
  have HW := Lib.hid (fun w h1 h2 => law08_wakes w m h1 h2)
  clear hm ht
  by_cases hk : 900 < kind.size
  · have hd := decide_eq_true (show (900 : Int) < (kind.size : Int) by omega)
    clear hk
    go_enter Tryz.func4, Tryz.ntmps4
    go_wp2_with fail
    refine (HW.out _ L0.mx L0.tb).mono ?_
    rintro e w9 ⟨rfl, hb9⟩
    go_wp2_with fail
    go_ret
    exact ⟨rfl, hb9⟩
  · have hd := decide_eq_false (show ¬ (900 : Int) < (kind.size : Int) by omega)
    by_cases hz : 3000 < a.size + b.size
    · have hd2 := decide_eq_true (show (3000 : Int) < (a.size : Int) + (b.size : Int) by omega)
      clear hk hz
      go_enter Tryz.func4, Tryz.ntmps4
      go_wp2_with fail
      refine (HW.out _ L0.mx L0.tb).mono ?_
      rintro e w9 ⟨rfl, hb9⟩
      go_wp2_with fail
      go_ret
      exact ⟨rfl, hb9⟩
    · have hd2 := decide_eq_false (show ¬ (3000 : Int) < (a.size : Int) + (b.size : Int) by omega)
      have hs1 : ((⟨#[255, 254]⟩ : ByteArray) ++ a).size ≤ 1000000 := by rw [ByteArray.size_append]; show 2 + a.size ≤ _; omega
      have hs2 : ((⟨#[255, 254]⟩ : ByteArray) ++ b).size ≤ 1000000 := by rw [ByteArray.size_append]; show 2 + b.size ≤ _; omega
      have hA := fun w h1 h2 => sniff_Encoding kind ((⟨#[255, 254]⟩ : ByteArray) ++ a) (by omega) hs1 w m h1 h2
      have hB := fun w h1 h2 => sniff_Encoding kind ((⟨#[255, 254]⟩ : ByteArray) ++ b) (by omega) hs2 w m h1 h2
      rw [enc_le] at hA hB
      have hC := fun w h1 h2 => sniff_Encoding kcB a (by decide) (by omega) w m h1 h2
      have hD := fun w h1 h2 => sniff_Encoding kcB b (by decide) (by omega) w m h1 h2
      have hE := fun w h1 h2 => sniff_Encoding kind b (by omega) (by omega) w m h1 h2
      have hX := fun w => sniff_Xml kind w (by omega)
      have hca := (enc_kc a).2
      have hcb := (enc_kc b).1
      have hfm := first_media kind b
      have c1 : ¬ 9223372036854775807 < 2 + a.size := by omega
      have c2 : ¬ 9223372036854775807 < 2 + b.size := by omega
      obtain ⟨N0, hN0⟩ : ∃ N, noneK kind = N := ⟨_, rfl⟩
      rw [hN0] at hA hB
      obtain ⟨Ea, hEa⟩ : ∃ E, encP kcB a = E := ⟨_, rfl⟩
      obtain ⟨Eb, hEb⟩ : ∃ E, encP kcB b = E := ⟨_, rfl⟩
      obtain ⟨Ec, hEc⟩ : ∃ E, encP kind b = E := ⟨_, rfl⟩
      rw [hEa] at hC hca
      rw [hEb] at hD hcb
      rw [hEc] at hE hfm
      unfold kcB at hC hD
      obtain ⟨u, ku, lu⟩ := Ea
      obtain ⟨v, k, lv⟩ := Eb
      obtain ⟨ec, kc, lc⟩ := Ec
      obtain ⟨xm, hxm⟩ : ∃ x, xmlK kind = x := ⟨_, rfl⟩
      rw [hxm] at hX hfm
      simp only at hca hcb hfm
      have HA := Lib.hid hA
      have HB := Lib.hid hB
      have HC := Lib.hid hC
      have HD := Lib.hid hD
      have HE := Lib.hid hE
      have HX := Lib.hid hX
      have HFM := Lib.hid hfm
      have t1 : (u != 4) = false ∨ ((u != 4) = true ∧ decide (2 < u) = false) := by
        rcases hca with h | h
        · exact .inl (by simp [h])
        · by_cases h4 : u = 4
          · exact .inl (by simp [h4])
          · exact .inr ⟨by simpa using h4, decide_eq_false (by omega)⟩
      have t2 : (((k : Nat) : Int) == 0) = false ∨ ((((k : Nat) : Int) == 0) = true ∧ (v != 4) = false) := by
        by_cases h0 : k = 0
        · exact .inr ⟨by simp [h0], by simp [hcb h0]⟩
        · exact .inl (by simp; omega)
      clear hA hB hC hD hE hX hfm hca hcb hEa hEb hEc hN0 hxm hs1 hs2 hk hz
      go_enter Tryz.func4, Tryz.ntmps4
      go_wp2_with fail
      refine (HA.out _ L0.mx L0.tb).mono ?_
      rintro e w1 ⟨v1, rfl, -, hb1⟩
      have L1 := L0.below hb1
      clear L0 hb1
      go_wp2_with fail
      refine (HB.out _ L1.mx L1.tb).mono ?_
      rintro e w2 ⟨v2, rfl, -, hb2⟩
      have L2 := L1.below hb2
      clear L1 hb2
      go_wp2_with fail
      refine (HC.out _ L2.mx L2.tb).mono ?_
      rintro e w3 ⟨v3, rfl, -, hb3⟩
      have L3 := L2.below hb3
      clear L2 hb3
      go_wp2_with fail
      refine (HD.out _ L3.mx L3.tb).mono ?_
      rintro e w4 ⟨v4, rfl, -, hb4⟩
      have L4 := L3.below hb4
      clear L3 hb4
      rcases t1 with t1 | ⟨t1, t1'⟩ <;> rcases t2 with t2 | ⟨t2, t2'⟩
      all_goals
        go_wp2_with fail
        refine (HE.out _ L4.mx L4.tb).mono ?_
        rintro e w5 ⟨v5, rfl, ho5, hb5⟩
        have L5 := L4.below hb5
        have hr5 : CReads w5.heap.size w5 v5 lc.length (rsC (k0 lc)) := CReads.of_own ho5
        clear L4 hb5 ho5
        rcases HFM.out with ⟨h0, rfl⟩ | ⟨c, r, h0, hc⟩
        · subst h0
          obtain ⟨a5, c5, rfl, -⟩ := hr5
          go_wp2_with fail
          refine (HX.out _).mono ?_
          rintro e w6 ⟨rfl, hb6⟩
          have L6 := L5.below hb6
          go_wp2_with fail
          refine (HW.out _ L6.mx L6.tb).mono ?_
          rintro e w9 ⟨rfl, hb9⟩
          have L9 := L6.below hb9
          go_wp2_with fail
          go_ret
          exact ⟨rfl, L9.bl⟩
        · subst h0
          obtain ⟨bl, off, cap, hv, g0, g1⟩ := hr5.rs (Below.refl w5.heap.size w5) (Nat.le_refl _) 0 (c, 0) rfl
          subst hv
          simp only [Nat.zero_mul, Nat.add_zero] at g0 g1
          obtain ⟨n5, hn5⟩ : ∃ n, r.length = n := ⟨_, rfl⟩
          rw [show (c :: r).length = r.length + 1 from rfl, hn5]
          clear hr5 hn5
          rcases hc with ⟨rfl, rfl⟩ | ⟨rfl, rfl⟩
          all_goals
            go_wp2_with fail
            refine (HX.out _).mono ?_
            rintro e w6 ⟨rfl, hb6⟩
            have L6 := L5.below hb6
            go_wp2_with fail
            refine (HW.out _ L6.mx L6.tb).mono ?_
            rintro e w9 ⟨rfl, hb9⟩
            have L9 := L6.below hb9
            go_wp2_with fail
            go_ret
            exact ⟨rfl, L9.bl⟩
end Go.Proofs.YthahfoliblgegaaGreatDoor
