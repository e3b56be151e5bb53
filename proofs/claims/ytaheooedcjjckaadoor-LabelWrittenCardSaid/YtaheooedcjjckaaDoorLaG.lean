/-
  Layer 5: the document's Of, Texts; the law's own waking.
-/
import Derived.Test.YtaheooedcjjckaaDoorLaF
namespace Go.Proofs.YtaheooedcjjckaaDoor
open Go.RowKit
set_option maxHeartbeats 1000000 in
theorem ref05_Of (s : ByteArray) (hs : s.size ≤ 1000000) (w : World) :
    Calls Tryd.prog 9 #[.string s] w fun e w' => e = .returned (.tuple #[.int .i8 (ofS (wantS s)).1, .bool (ofS (wantS s)).2]) ∧ Below w.heap.size w w' := by
  have hts := trimS_size s
  obtain ⟨T, hT⟩ : ∃ T, trimS s = T := ⟨_, rfl⟩
  have hX : wantS s = strOfNums (lowL (nums T)) := by unfold wantS; rw [hT]
  obtain ⟨X, hXX⟩ : ∃ X, strOfNums (lowL (nums T)) = X := ⟨_, rfl⟩
  rw [hXX] at hX
  rw [hT] at hts
  have H1 := Lib.hid (fun u => by have h := ref05_Trim s u hs; rw [hT] at h; exact h)
  have H2 := Lib.hid (fun u => by have h := ref05_Lower T u (by omega); rw [hXX] at h; exact h)
  rw [hX]
  clear hT hXX hX
  go_enter Tryd.func9, Tryd.ntmps9
  go_wp2_with fail
  refine (H1.out _).mono ?_
  rintro e w' ⟨rfl, rfl⟩
  go_wp2_with fail
  refine (H2.out _).mono ?_
  rintro e w1 ⟨rfl, hb1⟩
  go_wp2_with fail
  go_loopw [5] (fun a wr => ∃ (e : Nat), a = .int .i8 e ∧ e ≤ 6 ∧ Below w.heap.size w wr ∧ Hid (ofS X = ofP X (restP e))) (fun a _ => 6 - (intOf a).toNat)
  case atStart => exact ⟨0, rfl, by omega, hb1, Lib.hid rfl⟩
  case round =>
    obtain ⟨e, rfl, he, hbw, HQ⟩ := hrel
    by_cases hlt : e < 6
    · have hwr : IntKind.i8.wrap ((e : Int) + 1) = (e : Int) + 1 := i8_succ e hlt
      have HL := Lib.hid (fun u => ref05_All (e : Int) u)
      have hll := labL_len (e : Int)
      have hR := restP_step e hlt
      obtain ⟨L, hL⟩ : ∃ L, labL (e : Int) = L := ⟨_, rfl⟩
      have hpr : pairP e = L.map fun l => ((e : Int), l) := by unfold pairP; rw [hL]
      rw [hL] at HL hll
      have HQ2 := Lib.hid (show ofS X = ofP X ((L.map fun l => ((e : Int), l)) ++ restP (e + 1)) by rw [HQ.out, hR, hpr])
      clear hR hpr hL
      have hei : (e : Int) < 6 := by omega
      go_wp2_with fail
      refine (HL.out _).mono ?_
      rintro e' w2 ⟨v, rfl, hr, hb⟩
      have hbw2 := bt hbw hb
      obtain ⟨a, cap, rfl, hc⟩ := hr.texts
      have HC := Lib.hid hc
      clear hr hc
      go_wp2_with fail
      go_loop [7] (fun i => ∃ (j : Nat), i = .int .i64 j ∧ j ≤ L.length ∧ Hid (ofS X = ofP X ((L.map fun l => ((e : Int), l)).drop j ++ restP (e + 1)))) (fun i => L.length - (intOf i).toNat)
      case atStart => exact ⟨0, rfl, by omega, Lib.hid (by rw [HQ2.out, List.drop_zero])⟩
      case round =>
        obtain ⟨j, rfl, hj, HD⟩ := hrel
        by_cases hjl : j < L.length
        · obtain ⟨b, off, rfl, hbl, hcc⟩ := HC.out j hjl
          obtain ⟨Y, hY⟩ : ∃ X, L[j] = X := ⟨_, rfl⟩
          rw [hY] at hcc
          have hdr : (L.map fun l => ((e : Int), l)).drop j = ((e : Int), Y) :: (L.map fun l => ((e : Int), l)).drop (j + 1) := by
            rw [List.drop_eq_getElem_cons (by rw [List.length_map]; exact hjl), List.getElem_map, hY]
          cases hq : Y.toList == X.toList with
          | true =>
            have HE := Lib.hid (show ofS X = ((e : Int), true) by rw [HD.out, hdr, List.cons_append, ofP]; rw [if_pos hq])
            clear hdr hY
            go_wp2_with fail
            go_ret2
            exact ⟨by rw [HE.out] <;> rfl, hbw2⟩
          | false =>
            have HE := Lib.hid (show ofS X = ofP X ((L.map fun l => ((e : Int), l)).drop (j + 1) ++ restP (e + 1)) by
              rw [HD.out, hdr, List.cons_append, ofP]
              rw [if_neg (by rw [hq]; decide)])
            clear hdr hY
            go_wp2_with fail
            exact ⟨⟨j + 1, by go_num, by omega, HE⟩, by simp [intOf]; omega⟩
        · have HE := Lib.hid (show ofS X = ofP X (restP (e + 1)) by rw [HD.out, List.drop_eq_nil_of_le (by rw [List.length_map]; omega), List.nil_append])
          go_wp2_with fail
          exact ⟨⟨e + 1, by simp, by omega, hbw2, HE⟩, by simp [intOf]; omega⟩
    · have HE := Lib.hid (show ofS X = (0, false) by rw [HQ.out, show e = 6 by omega, restP_end]; rfl)
      go_wp2_with fail
      go_ret2
      exact ⟨by rw [HE.out] <;> rfl, hbw⟩
theorem ref05_Texts (w : World) (B : Nat) (va vb : Value) (ss : List ByteArray) (h1 : Reads B w va (ss.map Value.string)) (h2 : Reads B w vb (ss.map Value.string)) (hz : ss.length < 1000000000) :
    Calls Tryd.prog 12 #[va, vb] w fun e w' => e = .returned (.bool true) ∧ Below w.heap.size w w' := by
  obtain ⟨a1, cap1, rfl, C1⟩ := h1.texts
  obtain ⟨a2, cap2, rfl, C2⟩ := h2.texts
  clear h1 h2
  go_enter Tryd.func12, Tryd.ntmps12
  go_wp2
  go_loopw [5] (fun i wr => ∃ k n : Nat, i = .int .i64 k ∧ k ≤ ss.length ∧ wr = w.drewN n) (fun i _ => ss.length - (intOf i).toNat)
  case atStart => exact ⟨0, 0, rfl, by omega, rfl⟩
  case round =>
    obtain ⟨k, n, rfl, hk, rfl⟩ := hrel
    by_cases hlt : k < ss.length
    · obtain ⟨g1, o1, rfl, _, e1⟩ := C1 k hlt
      obtain ⟨g2, o2, rfl, _, e2⟩ := C2 k hlt
      obtain ⟨X, hX⟩ : ∃ X, ss[k] = X := ⟨_, rfl⟩
      rw [hX] at e1 e2
      have qx : (X.toList != X.toList) = false := by simp
      clear C1 C2 hX
      go_wp2_with fail
      go_quiet (fail)
      go_wp2
      exact ⟨⟨k + 1, n + nq, by go_num, by omega, by simp [World.drewN]⟩, by simp [intOf]; omega⟩
    · go_wp2
      go_ret
      exact ⟨rfl, below_dn (Below.refl _ _) _⟩
theorem wk5_1 : ofS (wantS ⟨#[32, 76, 97, 116, 105, 110, 49]⟩) = (3, true) := by kernel_rfl
theorem wk5_2 : ofS (wantS ⟨#[117, 116, 102, 45, 55]⟩) = (0, false) := by kernel_rfl
theorem wk5_3 : namS 5 = ⟨#[105, 115, 111, 45, 56, 56, 53, 57, 45, 49, 53]⟩ := by kernel_rfl
theorem wk5_4 : trimS ⟨#[9, 32, 97, 32]⟩ = ⟨#[97]⟩ := by kernel_rfl
theorem wk5_5 : strOfNums (lowL (nums ⟨#[97, 90, 192]⟩)) = ⟨#[97, 122, 192]⟩ := by kernel_rfl
theorem law05_wakes (w : World) (ht : TabAt w) : Calls Tryd.prog 7 #[] w fun e w' => e = .returned (.bool true) ∧ Below w.heap.size w w' := by
  have H1 := Lib.hid (fun u hu => by have h := label_Of ⟨#[32, 76, 97, 116, 105, 110, 49]⟩ (by decide) u hu; rw [wk5_1] at h; exact h)
  have H2 := Lib.hid (fun u hu => by have h := label_Of ⟨#[117, 116, 102, 45, 55]⟩ (by decide) u hu; rw [wk5_2] at h; exact h)
  have H3 := Lib.hid (fun u hu => by have h := label_Name 5 u hu; rw [wk5_3] at h; exact h)
  have H4 := Lib.hid (fun u => by have h := label_Trim ⟨#[9, 32, 97, 32]⟩ u (by decide); rw [wk5_4] at h; exact h)
  have H5 := Lib.hid (fun u => by have h := label_Lower ⟨#[97, 90, 192]⟩ u (by decide); rw [wk5_5] at h; exact h)
  have hB := Below.refl w.heap.size w
  go_enter Tryd.func7, Tryd.ntmps7
  go_wp2_with fail
  refine (H1.out _ ht).mono ?_
  rintro e w1 ⟨rfl, hb1⟩
  replace hB := bt hB hb1
  go_wp2_with fail
  refine (H2.out _ (ht.below hB)).mono ?_
  rintro e w2 ⟨rfl, hb2⟩
  replace hB := bt hB hb2
  go_wp2_with fail
  refine (H3.out _ (ht.below hB)).mono ?_
  rintro e w3 ⟨rfl, hb3⟩
  replace hB := bt hB hb3
  go_wp2_with fail
  refine (H4.out _).mono ?_
  rintro e w4 ⟨rfl, hb4⟩
  replace hB := bt hB hb4
  go_wp2_with fail
  refine (H5.out _).mono ?_
  rintro e w5 ⟨rfl, hb5⟩
  replace hB := bt hB hb5
  go_wp2
  go_ret
  exact ⟨rfl, hB⟩
end Go.Proofs.YtaheooedcjjckaaDoor
