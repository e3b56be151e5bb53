/-
  Layer 7: the document's begins, Mark, Cut, Shape, inside.
-/
import Derived.Test.YtaheooedcjjckaaDeE
namespace Go.Proofs.Ytaheooedcjjckaa
open Go.RowKit
theorem pre_take (b p : ByteArray) (_h : p.size ≤ b.size) : ((b.extract 0 p.size).toList == p.toList) = preB b p := by
  have e1 : (b.extract 0 p.size).toList = b.data.toList.take p.size := by
    rw [ByteArray.toList_eq, ByteArray.data_extract, Array.toList_extract]; simp
  have e2 : p.toList = p.data.toList := ByteArray.toList_eq p
  have e3 : p.size = p.data.toList.length := rfl
  rw [e1, e2]
  unfold preB Lib.hasPrefix
  rw [Bool.eq_iff_iff, beq_iff_eq, List.isPrefixOf_iff_prefix, List.prefix_iff_eq_take, ← e3]
  exact eq_comm
theorem pre_short (b p : ByteArray) (h : b.size < p.size) : preB b p = false := by
  unfold preB Lib.hasPrefix
  cases e : p.data.toList.isPrefixOf b.data.toList with
  | false => rfl
  | true =>
    have := (List.isPrefixOf_iff_prefix.1 e).length_le
    rw [Array.length_toList, Array.length_toList] at this
    exact absurd h (by show ¬ b.data.size < p.data.size; omega)
theorem ref07_begins (b p : ByteArray) (w : World) : Calls Try.prog 20 #[.string b, .string p] w fun e w' => e = .returned (.bool (preB b p)) ∧ w = w' := by
  by_cases h : p.size ≤ b.size
  · have HT := Lib.hid (pre_take b p h)
    go_enter Try.func20, Try.ntmps20
    go_wp2
    go_ret
    exact ⟨ret_bool HT.out, rfl⟩
  · have HT := Lib.hid (pre_short b p (by omega))
    go_enter Try.func20, Try.ntmps20
    go_wp2
    go_ret
    exact ⟨ret_bool HT.out.symm, rfl⟩
theorem begins_at (b p : ByteArray) (l : List Int) (hl : nums p = l) (v : Bool) (hv : l.isPrefixOf (nums b) = v) : Hid (∀ u, Calls Try.prog 20 #[.string b, .string p] u fun e w' => e = .returned (.bool v) ∧ u = w') :=
  Lib.hid fun u => by have h := ref07_begins b p u; rw [preB_nums, hl, hv] at h; exact h
theorem ref07_Mark (b : ByteArray) (w : World) : Calls Try.prog 9 #[.string b] w fun e w' => e = .returned (.tuple #[.int .i8 (mrkV (nums b)).1, .int .i64 ((mrkV (nums b)).2.1 : Nat), .bool (mrkV (nums b)).2.2]) ∧ w = w' := by
  cases h1 : [239, 187, 191].isPrefixOf (nums b) with
  | true =>
    have H1 := begins_at b ⟨#[239, 187, 191]⟩ _ rfl true h1
    have HV := Lib.hid (show mrkV (nums b) = (0, 3, true) by unfold mrkV markD; rw [if_pos h1])
    clear h1
    go_enter Try.func9, Try.ntmps9
    go_wp2_with fail
    refine (H1.out _).mono ?_
    rintro e w' ⟨rfl, rfl⟩
    go_wp2
    go_ret3
    exact ⟨by rw [HV.out] <;> rfl, rfl⟩
  | false =>
    have H1 := begins_at b ⟨#[239, 187, 191]⟩ _ rfl false h1
    cases h2 : [255, 254].isPrefixOf (nums b) with
    | true =>
      have H2 := begins_at b ⟨#[255, 254]⟩ _ rfl true h2
      have HV := Lib.hid (show mrkV (nums b) = (1, 2, true) by unfold mrkV markD; rw [h1, if_neg (by decide), if_pos h2])
      clear h1 h2
      go_enter Try.func9, Try.ntmps9
      go_wp2_with fail
      refine (H1.out _).mono ?_
      rintro e w' ⟨rfl, rfl⟩
      go_wp2_with fail
      refine (H2.out _).mono ?_
      rintro e w' ⟨rfl, rfl⟩
      go_wp2
      go_ret3
      exact ⟨by rw [HV.out] <;> rfl, rfl⟩
    | false =>
      have H2 := begins_at b ⟨#[255, 254]⟩ _ rfl false h2
      cases h3 : [254, 255].isPrefixOf (nums b) with
      | true =>
        have H3 := begins_at b ⟨#[254, 255]⟩ _ rfl true h3
        have HV := Lib.hid (show mrkV (nums b) = (2, 2, true) by unfold mrkV markD; rw [h1, if_neg (by decide), h2, if_neg (by decide), if_pos h3])
        clear h1 h2 h3
        go_enter Try.func9, Try.ntmps9
        go_wp2_with fail
        refine (H1.out _).mono ?_
        rintro e w' ⟨rfl, rfl⟩
        go_wp2_with fail
        refine (H2.out _).mono ?_
        rintro e w' ⟨rfl, rfl⟩
        go_wp2_with fail
        refine (H3.out _).mono ?_
        rintro e w' ⟨rfl, rfl⟩
        go_wp2
        go_ret3
        exact ⟨by rw [HV.out] <;> rfl, rfl⟩
      | false =>
        have H3 := begins_at b ⟨#[254, 255]⟩ _ rfl false h3
        have HV := Lib.hid (show mrkV (nums b) = (0, 0, false) by unfold mrkV markD; rw [h1, if_neg (by decide), h2, if_neg (by decide), h3, if_neg (by decide)])
        clear h1 h2 h3
        go_enter Try.func9, Try.ntmps9
        go_wp2_with fail
        refine (H1.out _).mono ?_
        rintro e w' ⟨rfl, rfl⟩
        go_wp2_with fail
        refine (H2.out _).mono ?_
        rintro e w' ⟨rfl, rfl⟩
        go_wp2_with fail
        refine (H3.out _).mono ?_
        rintro e w' ⟨rfl, rfl⟩
        go_wp2
        go_ret3
        exact ⟨by rw [HV.out] <;> rfl, rfl⟩
theorem ref07_Shape (b : ByteArray) (w : World) : Calls Try.prog 13 #[.string b] w fun e w' => e = .returned (.tuple #[.int .i8 (shpV (nums b)).1, .bool (shpV (nums b)).2]) ∧ w = w' := by
  cases h1 : [60, 0, 63, 0].isPrefixOf (nums b) with
  | true =>
    have H1 := begins_at b ⟨#[60, 0, 63, 0]⟩ _ rfl true h1
    have HV := Lib.hid (show shpV (nums b) = (1, true) by unfold shpV shapeD; rw [if_pos h1])
    clear h1
    go_enter Try.func13, Try.ntmps13
    go_wp2_with fail
    refine (H1.out _).mono ?_
    rintro e w' ⟨rfl, rfl⟩
    go_wp2
    go_ret2
    exact ⟨by rw [HV.out] <;> rfl, rfl⟩
  | false =>
    have H1 := begins_at b ⟨#[60, 0, 63, 0]⟩ _ rfl false h1
    cases h2 : [0, 60, 0, 63].isPrefixOf (nums b) with
    | true =>
      have H2 := begins_at b ⟨#[0, 60, 0, 63]⟩ _ rfl true h2
      have HV := Lib.hid (show shpV (nums b) = (2, true) by unfold shpV shapeD; rw [h1, if_neg (by decide), if_pos h2])
      clear h1 h2
      go_enter Try.func13, Try.ntmps13
      go_wp2_with fail
      refine (H1.out _).mono ?_
      rintro e w' ⟨rfl, rfl⟩
      go_wp2_with fail
      refine (H2.out _).mono ?_
      rintro e w' ⟨rfl, rfl⟩
      go_wp2
      go_ret2
      exact ⟨by rw [HV.out] <;> rfl, rfl⟩
    | false =>
      have H2 := begins_at b ⟨#[0, 60, 0, 63]⟩ _ rfl false h2
      have HV := Lib.hid (show shpV (nums b) = (0, false) by unfold shpV shapeD; rw [h1, if_neg (by decide), h2, if_neg (by decide)])
      clear h1 h2
      go_enter Try.func13, Try.ntmps13
      go_wp2_with fail
      refine (H1.out _).mono ?_
      rintro e w' ⟨rfl, rfl⟩
      go_wp2_with fail
      refine (H2.out _).mono ?_
      rintro e w' ⟨rfl, rfl⟩
      go_wp2
      go_ret2
      exact ⟨by rw [HV.out] <;> rfl, rfl⟩
theorem ref07_Cut (b : ByteArray) (w : World) : Calls Try.prog 11 #[.string b] w fun e w' => e = .returned (.string (cutS b)) ∧ w = w' := by
  have hle := mrkV_le b
  obtain ⟨en, n, ok, hm⟩ : ∃ x y z, mrkV (nums b) = (x, y, z) := ⟨_, _, _, rfl⟩
  have HM := Lib.hid (ref07_Mark b w)
  rw [hm] at hle HM
  dsimp only at hle HM
  have HC := Lib.hid (show b.extract n b.size = cutS b by unfold cutS; rw [hm])
  have hle' : (n : Int) ≤ (b.size : Int) := by omega
  clear hm
  go_enter Try.func11, Try.ntmps11
  go_wp2_with fail
  refine HM.out.mono ?_
  rintro e w' ⟨rfl, rfl⟩
  go_wp2
  go_ret
  exact ⟨ret_str HC.out, rfl⟩
/-- what stands inside, as it is told. -/
def insV (l : List Int) : ByteArray × Bool := match insB (l.take 200) with
  | some x => (strOfNums x, true)
  | none => (⟨#[]⟩, false)
set_option maxHeartbeats 1000000 in
theorem ref07_inside (s : ByteArray) (w : World) (hs : s.size ≤ 1000000) : Calls Try.prog 23 #[.string s] w fun e w' => e = .returned (.tuple #[.string (insV (nums s)).1, .bool (insV (nums s)).2]) ∧ w = w' := by
  obtain ⟨b, nb, hcase⟩ : ∃ b, nums b = (nums s).take 200 ∧ ((s.size ≤ 200 ∧ b = s) ∨ (200 < s.size ∧ s.extract 0 200 = b)) := by
    by_cases h : s.size ≤ 200
    · exact ⟨s, by rw [List.take_of_length_le (by rw [nums_length]; omega)], .inl ⟨h, rfl⟩⟩
    · exact ⟨_, by rw [nums_extD, List.drop_zero], .inr ⟨by omega, rfl⟩⟩
  have lb : b.size ≤ s.size := by rw [← nums_length, nb, List.length_take, nums_length]; omega
  have hiv : insV (nums s) = match insB (nums b) with
      | some x => (strOfNums x, true)
      | none => (⟨#[]⟩, false) := by rw [nb]; rfl
  cases h1 : [60, 63, 120, 109, 108].isPrefixOf (nums b) with
  | false =>
    have H1 := begins_at b ⟨#[60, 63, 120, 109, 108]⟩ _ rfl false h1
    have HV := Lib.hid (show insV (nums s) = (⟨#[]⟩, false) by rw [hiv]; unfold insB; rw [h1]; simp)
    clear h1 hiv nb
    rcases hcase with ⟨hs2, rfl⟩ | ⟨hs2, hb⟩
    all_goals
      go_enter Try.func23, Try.ntmps23
      go_wp2_with fail
      refine (H1.out _).mono ?_
      rintro e w' ⟨rfl, rfl⟩
      go_wp2_with fail
      go_ret2
      exact ⟨by rw [HV.out] <;> rfl, rfl⟩
  | true =>
    have H1 := begins_at b ⟨#[60, 63, 120, 109, 108]⟩ _ rfl true h1
    by_cases h6 : b.size < 6
    · have HV := Lib.hid (show insV (nums s) = (⟨#[]⟩, false) by
        rw [hiv]; unfold insB
        rw [List.drop_eq_nil_of_le (by rw [nums_length]; omega)]
        simp)
      clear h1 hiv nb
      rcases hcase with ⟨hs2, rfl⟩ | ⟨hs2, hb⟩
      all_goals
        go_enter Try.func23, Try.ntmps23
        go_wp2_with fail
        refine (H1.out _).mono ?_
        rintro e w' ⟨rfl, rfl⟩
        go_wp2_with fail
        go_ret2
        exact ⟨by rw [HV.out] <;> rfl, rfl⟩
    · obtain ⟨c, hc5⟩ : ∃ c : Int, ((b[5]'(by omega)).toNat : Int) = c := ⟨_, rfl⟩
      have hix := index_str b 5 (by omega) c 5 hc5 rfl
      have hd5 := nums_drop b 5 (by omega)
      rw [hc5] at hd5
      have h6' : (5 : Int) < (b.size : Int) := by omega
      cases hwc : whN c with
      | false =>
        have HV := Lib.hid (show insV (nums s) = (⟨#[]⟩, false) by
          rw [hiv]; unfold insB
          rw [hd5, List.head?_cons, Option.map_some, hwc]
          simp)
        have HW := Lib.hid (fun u => by have h := ref07_white c u; rw [hwc] at h; exact h)
        clear h1 hiv nb hc5 hd5 hwc
        rcases hcase with ⟨hs2, rfl⟩ | ⟨hs2, hb⟩
        all_goals
          go_enter Try.func23, Try.ntmps23
          go_wp2_with fail
          refine (H1.out _).mono ?_
          rintro e w' ⟨rfl, rfl⟩
          go_wp2_with fail
          refine (HW.out _).mono ?_
          rintro e w' ⟨rfl, rfl⟩
          go_wp2_with fail
          go_ret2
          exact ⟨by rw [HV.out] <;> rfl, rfl⟩
      | true =>
        have HV := Lib.hid (show insV (nums s) = match (endP ((nums b).drop 5)) with
            | some i => (strOfNums (((nums b).drop 5).take i), true)
            | none => (⟨#[]⟩, false) by
          rw [hiv]; unfold insB
          rw [if_pos ⟨h1, by rw [hd5, List.head?_cons, Option.map_some, hwc]⟩]
          cases endP ((nums b).drop 5) <;> rfl)
        have HW := Lib.hid (fun u => by have h := ref07_white c u; rw [hwc] at h; exact h)
        clear h1 hiv nb hc5 hd5 hwc
        rcases hcase with ⟨hs2, rfl⟩ | ⟨hs2, hb⟩
        all_goals
          go_enter Try.func23, Try.ntmps23
          go_wp2_with fail
          refine (H1.out _).mono ?_
          rintro e w' ⟨rfl, rfl⟩
          go_wp2_with fail
          refine (HW.out _).mono ?_
          rintro e w' ⟨rfl, rfl⟩
          go_wp2_with fail
          go_loop [4] (fun i => ∃ k : Nat, i = .int .i64 k ∧ 5 ≤ k ∧ k ≤ b.size ∧ Hid (endP ((nums b).drop 5) = (endP ((nums b).drop k)).map (· + (k - 5)))) (fun i => b.size - (intOf i).toNat)
          case atStart => exact ⟨5, rfl, by omega, by omega, Lib.hid (by simp)⟩
          case round =>
            obtain ⟨k, rfl, hk5, hkl, HQ⟩ := hrel
            by_cases hlt : k + 1 < b.size
            · obtain ⟨x, hx⟩ : ∃ c : Int, (b[k].toNat : Int) = c := ⟨_, rfl⟩
              obtain ⟨y, hy⟩ : ∃ c : Int, (b[k + 1].toNat : Int) = c := ⟨_, rfl⟩
              have hix1 := index_str b k (by omega) x k hx rfl
              have hix2 := index_str b (k + 1) hlt y ((k : Int) + 1) hy (by omega)
              have hdk := nums_drop b k (by omega)
              have hdk1 := nums_drop b (k + 1) hlt
              rw [hx] at hdk
              rw [hy] at hdk1
              by_cases hxy : x = 63 ∧ y = 62
              · obtain ⟨rfl, rfl⟩ := hxy
                have HE := Lib.hid (show endP ((nums b).drop 5) = some (k - 5) by rw [HQ.out, hdk, endP, if_pos ⟨rfl, by rw [hdk1]; rfl⟩]; simp)
                have HX := Lib.hid (show b.extract 5 k = strOfNums (((nums b).drop 5).take (k - 5)) from ext_strD b 5 k)
                have hkk : (k : Int) ≤ (b.size : Int) := by omega
                have hkk5 : (5 : Int) ≤ (k : Int) := by omega
                clear hx hy hdk hdk1
                go_wp2_with fail
                go_ret2
                exact ⟨by show Ending.returned (.tuple #[.string (b.extract 5 k), .bool true]) = _; rw [HV.out, HE.out, HX.out], rfl⟩
              · have HQ2 := Lib.hid (show endP ((nums b).drop 5) = (endP ((nums b).drop (k + 1))).map (· + (k + 1 - 5)) by
                  rw [HQ.out, hdk, endP, if_neg (fun e => hxy ⟨e.1, by have := e.2; rw [hdk1] at this; simpa using this⟩), Option.map_map]
                  congr 1
                  funext i
                  simp only [Function.comp]
                  omega)
                have hxy' : (x == 63) = false ∨ ((x == 63) = true ∧ (y == 62) = false) := by
                  by_cases e : x = 63
                  · exact .inr ⟨by simpa using e, by simpa using fun e2 => hxy ⟨e, e2⟩⟩
                  · exact .inl (by simpa using e)
                clear hx hy hdk hdk1 hxy
                rcases hxy' with q1 | ⟨q1, q2⟩
                all_goals
                  go_wp2_with fail
                  exact ⟨⟨k + 1, by go_num, by omega, by omega, HQ2⟩, by simp [intOf]; omega⟩
            · have HE := Lib.hid (show endP ((nums b).drop 5) = none by
                rw [HQ.out]
                cases e : endP ((nums b).drop k) with
                | none => rfl
                | some i =>
                  have := endP_lt _ _ e
                  rw [List.length_drop, nums_length] at this
                  omega)
              go_wp2_with fail
              go_ret2
              exact ⟨by rw [HV.out, HE.out] <;> rfl, rfl⟩
end Go.Proofs.Ytaheooedcjjckaa
