/-
  wakes; Utf16Units.
-/
import Derived.Test.YtppabccedmdajaaUtB
import Derived.Test.YtppabccedmdajaaUtC
namespace Go.Proofs.Ytppabccedmdajaa
open Go.RowKit
theorem ok_app {a c : List Int} (hc : isBs c) (oa : okAll a = true) (oc : okAll c = true) : okAll (a ++ c) = true ∧ scalL (a ++ c) = scalL a ++ scalL c := by
  have hp := pieces_app_len a.length a c (Nat.le_refl _) (ok_head c hc oc)
  have h1 : okAll (a ++ c) = true := by
    unfold okAll at oa oc ⊢
    rw [hp, List.all_append, oa, oc]
    rfl
  refine ⟨h1, ?_⟩
  unfold scalL
  rw [if_pos h1, if_pos oa, if_pos oc, hp, List.map_append]
theorem nums_app (x y : ByteArray) : nums (x ++ y) = nums x ++ nums y := by
  unfold nums
  rw [ByteArray.data_append, Array.toList_append, List.map_append]
theorem unitsB_app (a b : ByteArray) (oa : okAll (nums a) = true) (ob : okAll (nums b) = true) : unitsB (a ++ b) = unitsB a + unitsB b := by
  unfold unitsB
  rw [nums_app, (ok_app (nums_isBs b) oa ob).2, unitsN_append]
  omega
theorem unitsB_no {s : ByteArray} (h : okAll (nums s) = false) : unitsB s = 0 := by
  unfold unitsB scalL
  rw [if_neg (by rw [h]; decide)]
  rfl
set_option maxRecDepth 100000 in
theorem law03_wakes (w : World) : Calls Try.prog 8 #[] w fun e w' => e = .returned (.bool true) ∧ Below w.heap.size w w' := by
  have D1 : dW false 0 (nums ⟨#[61, 216, 0, 222]⟩) = ([128512], []) := by decide +kernel
  have D2 : dW false 0 (nums ⟨#[61, 216, 65, 0]⟩) = ([65533, 65], [0]) := by decide +kernel
  have T1 : textS [128512] = ⟨#[240, 159, 152, 128]⟩ := by decide +kernel
  have T2 : textS [65533, 65] = ⟨#[239, 191, 189, 65]⟩ := by decide +kernel
  have E1 : encB true ⟨#[97]⟩ = ⟨#[0, 97]⟩ := by decide +kernel
  have E2 : encC ⟨#[97]⟩ = 0 := by decide +kernel
  have U1 : unitsB ⟨#[240, 159, 152, 128]⟩ = 2 := by decide +kernel
  have HD1 := fun w => utf16_Decode false ⟨#[61, 216, 0, 222]⟩ w (by decide)
  have HD2 := fun w => utf16_Decode false ⟨#[61, 216, 65, 0]⟩ w (by decide)
  have HE := fun w => utf16_Encode true ⟨#[97]⟩ w (by decide)
  have HU := fun w => utf16_Units ⟨#[240, 159, 152, 128]⟩ w (by decide)
  simp only [D1, D2, T1, T2, E1, E2, U1] at HD1 HD2 HE HU
  clear D1 D2 T1 T2 E1 E2 U1
  go_enter Try.func8, Try.ntmps8
  go_wp2_with fail
  refine (HD1 _).mono ?_
  rintro e w1 ⟨v1, rfl, hr1, hb1⟩
  go_wp2_with fail
  refine (HD2 _).mono ?_
  rintro e w2 ⟨v2, rfl, hr2, hb2⟩
  go_wp2_with fail
  refine (HE _).mono ?_
  rintro e w3 ⟨rfl, hb3⟩
  obtain ⟨a1, c1, rfl, -, -⟩ := (hr1 : Reads w1.heap.size w1 v1 ((([] : List Int)).map (Value.int .i64))).open
  obtain ⟨a2, c2, rfl, -, hc2⟩ := (hr2 : Reads w2.heap.size w2 v2 (([0] : List Int).map (Value.int .i64))).open
  obtain ⟨b, off, rfl, hbB, hcx⟩ := hc2 0 (by decide)
  have hc3 : w3.cell? ⟨b, off, none⟩ = some (.int .i64 0) := (hb3.cell (p := ⟨b, off, none⟩) hbB).trans hcx
  clear hc2 hcx hr1 hr2
  go_wp2_with fail
  refine (HU _).mono ?_
  rintro e w4 ⟨rfl, hb4⟩
  go_wp2_with fail
  go_ret
  exact ⟨rfl, ((hb1.trans (hb2.mono hb1.size)).trans (hb3.mono (hb1.trans (hb2.mono hb1.size)).size)).trans (hb4.mono ((hb1.trans (hb2.mono hb1.size)).trans (hb3.mono (hb1.trans (hb2.mono hb1.size)).size)).size)⟩
set_option maxRecDepth 100000 in
set_option maxHeartbeats 4000000 in
theorem law_Utf16Units (a b : ByteArray) (w : World) (ha : a.size ≤ 140737488351232) (hb : b.size ≤ 140737488351232) : Calls Try.prog 5 #[.string a, .string b] w fun e w' => e = .returned (.bool true) ∧ Below w.heap.size w w' := by
  by_cases h1 : 2000 < a.size
  · have d1 := decide_eq_true (show (2000 : Int) < (a.size : Int) by omega)
    go_enter Try.func5, Try.ntmps5
    go_wp2_with fail
    refine (law03_wakes _).mono ?_
    rintro e w1 ⟨rfl, hb⟩
    go_wp2_with fail
    go_ret
    exact ⟨rfl, hb⟩
  · have d1 := decide_eq_false (show ¬ (2000 : Int) < (a.size : Int) by omega)
    by_cases h2 : 2000 < b.size
    · have d2 := decide_eq_true (show (2000 : Int) < (b.size : Int) by omega)
      go_enter Try.func5, Try.ntmps5
      go_wp2_with fail
      refine (law03_wakes _).mono ?_
      rintro e w1 ⟨rfl, hb⟩
      go_wp2_with fail
      go_ret
      exact ⟨rfl, hb⟩
    · have d2 := decide_eq_false (show ¬ (2000 : Int) < (b.size : Int) by omega)
      have VA := fun w => ref02_Valid a w (by omega)
      have VB := fun w => ref02_Valid b w (by omega)
      have UA := fun w => utf16_Units a w (by omega)
      have UB := fun w => utf16_Units b w (by omega)
      cases oa : okAll (nums a) with
      | false =>
        have ua := unitsB_no oa
        simp only [oa] at VA
        simp only [ua] at UA
        clear oa ua h1 h2
        cases ob : okAll (nums b) with
        | false =>
          have ub := unitsB_no ob
          simp only [ob] at VB
          simp only [ub] at UB
          clear ob ub
          go_enter Try.func5, Try.ntmps5
          go_wp2_with fail
          refine (VA _).mono ?_
          rintro e w1 ⟨rfl, hb1⟩
          go_wp2_with fail
          refine (VA _).mono ?_
          rintro e w2 ⟨rfl, hb2⟩
          have hb2 := hb1.trans (hb2.mono hb1.size)
          go_wp2_with fail
          refine (UA _).mono ?_
          rintro e w3 ⟨rfl, hb3⟩
          have hb3 := hb2.trans (hb3.mono hb2.size)
          go_wp2_with fail
          refine (VB _).mono ?_
          rintro e w4 ⟨rfl, hb4⟩
          have hb4 := hb3.trans (hb4.mono hb3.size)
          go_wp2_with fail
          refine (UB _).mono ?_
          rintro e w5 ⟨rfl, hb5⟩
          have hb5 := hb4.trans (hb5.mono hb4.size)
          go_wp2_with fail
          refine (law03_wakes _).mono ?_
          rintro e w6 ⟨rfl, hb6⟩
          have hb6 := hb5.trans (hb6.mono hb5.size)
          go_wp2_with fail
          go_ret
          exact ⟨rfl, hb6⟩
        | true =>
          simp only [ob] at VB
          clear ob
          go_enter Try.func5, Try.ntmps5
          go_wp2_with fail
          refine (VA _).mono ?_
          rintro e w1 ⟨rfl, hb1⟩
          go_wp2_with fail
          refine (VA _).mono ?_
          rintro e w2 ⟨rfl, hb2⟩
          have hb2 := hb1.trans (hb2.mono hb1.size)
          go_wp2_with fail
          refine (UA _).mono ?_
          rintro e w3 ⟨rfl, hb3⟩
          have hb3 := hb2.trans (hb3.mono hb2.size)
          go_wp2_with fail
          refine (VB _).mono ?_
          rintro e w4 ⟨rfl, hb4⟩
          have hb4 := hb3.trans (hb4.mono hb3.size)
          go_wp2_with fail
          refine (law03_wakes _).mono ?_
          rintro e w6 ⟨rfl, hb6⟩
          have hb6 := hb4.trans (hb6.mono hb4.size)
          go_wp2_with fail
          go_ret
          exact ⟨rfl, hb6⟩
      | true =>
        cases ob : okAll (nums b) with
        | false =>
          have ub := unitsB_no ob
          simp only [oa] at VA
          simp only [ob] at VB
          simp only [ub] at UB
          clear oa ob ub h1 h2
          go_enter Try.func5, Try.ntmps5
          go_wp2_with fail
          refine (VA _).mono ?_
          rintro e w1 ⟨rfl, hb1⟩
          go_wp2_with fail
          refine (VB _).mono ?_
          rintro e w2 ⟨rfl, hb2⟩
          have hb2 := hb1.trans (hb2.mono hb1.size)
          go_wp2_with fail
          refine (VA _).mono ?_
          rintro e w3 ⟨rfl, hb3⟩
          have hb3 := hb2.trans (hb3.mono hb2.size)
          go_wp2_with fail
          refine (VB _).mono ?_
          rintro e w4 ⟨rfl, hb4⟩
          have hb4 := hb3.trans (hb4.mono hb3.size)
          go_wp2_with fail
          refine (UB _).mono ?_
          rintro e w5 ⟨rfl, hb5⟩
          have hb5 := hb4.trans (hb5.mono hb4.size)
          go_wp2_with fail
          refine (law03_wakes _).mono ?_
          rintro e w6 ⟨rfl, hb6⟩
          have hb6 := hb5.trans (hb6.mono hb5.size)
          go_wp2_with fail
          go_ret
          exact ⟨rfl, hb6⟩
        | true =>
          obtain ⟨c, hc⟩ : ∃ c, a ++ b = c := ⟨_, rfl⟩
          have hcs : c.size = a.size + b.size := by rw [← hc]; exact ByteArray.size_append
          have UC := fun w => utf16_Units c w (by omega)
          have uc := unitsB_app a b oa ob
          rw [hc] at uc
          have SA := fun w => ref02_Scalars a w (by omega)
          simp only [oa] at VA SA
          simp only [ob] at VB
          have ll := unitsN_lo (scalL (nums a))
          have lb := (unitsN_lo (scalL (nums b))).2
          have sa := scalL_len (nums a)
          have sb := scalL_len (nums b)
          rw [nums_length] at sa sb
          have z1 : ¬ 9223372036854775807 < a.size + b.size := by omega
          obtain ⟨xs, hxs⟩ : ∃ xs, scalL (nums a) = xs := ⟨_, rfl⟩
          obtain ⟨na, hna⟩ : ∃ na : Nat, unitsN xs = na := ⟨_, rfl⟩
          obtain ⟨nb, hnb⟩ : ∃ nb : Nat, unitsN (scalL (nums b)) = nb := ⟨_, rfl⟩
          have e1 : unitsB a = (na : Int) := by unfold unitsB; rw [hxs, hna]
          have e2 : unitsB b = (nb : Int) := by unfold unitsB; rw [hnb]
          rw [e1, e2] at uc
          simp only [e1] at UA
          simp only [e2] at UB
          simp only [uc] at UC
          simp only [hxs] at SA
          rw [hxs] at ll sa
          rw [hna] at ll
          rw [hnb] at lb
          obtain ⟨l1, l2⟩ := ll
          have g1 : ((na : Int) + (nb : Int) == (na : Int) + (nb : Int)) = true := by simp
          have g2 := decide_eq_true (show (xs.length : Int) ≤ (na : Int) by omega)
          have g3 := decide_eq_true (show (na : Int) ≤ 2 * (xs.length : Int) by omega)
          have nb1 : na ≤ 4000 := by omega
          have nb2 : nb ≤ 4000 := by omega
          have nb3 : xs.length ≤ 2000 := by omega
          clear oa ob uc hxs hna hnb e1 e2 h1 h2 hcs lb sb sa
          go_enter Try.func5, Try.ntmps5
          go_wp2_with fail
          refine (VA _).mono ?_
          rintro e w1 ⟨rfl, hb1⟩
          go_wp2_with fail
          refine (VB _).mono ?_
          rintro e w2 ⟨rfl, hb2⟩
          have hb2 := hb1.trans (hb2.mono hb1.size)
          go_wp2_with fail
          refine (SA _).mono ?_
          rintro e w3 ⟨v, rfl, ho, hb3⟩
          have hb3 := hb2.trans (hb3.mono hb2.size)
          obtain ⟨av, cv, rfl, -, -⟩ := (Reads.of_own ho (by unfold maxLen; omega)).open
          clear ho
          go_wp2_with fail
          refine (UA _).mono ?_
          rintro e w4 ⟨rfl, hb4⟩
          have hb4 := hb3.trans (hb4.mono hb3.size)
          go_wp2_with fail
          refine (UC _).mono ?_
          rintro e w5 ⟨rfl, hb5⟩
          have hb5 := hb4.trans (hb5.mono hb4.size)
          go_wp2_with fail
          refine (UB _).mono ?_
          rintro e w6 ⟨rfl, hb6⟩
          have hb6 := hb5.trans (hb6.mono hb5.size)
          go_wp2_with fail
          refine (law03_wakes _).mono ?_
          rintro e w7 ⟨rfl, hb7⟩
          have hb7 := hb6.trans (hb7.mono hb6.size)
          go_wp2_with fail
          go_ret
          exact ⟨rfl, hb7⟩
end Go.Proofs.Ytppabccedmdajaa
