/-
  The walks of Number, scalar, ends; the reference's Number, end.
-/
import Derived.Test.YtkdkoondchbekaaRfA
import Derived.Test.YtkdkoondchbekaaChR
namespace Go.Proofs.Ytkdkoondchbekaa
open Go.RowKit
theorem toList_nilR {s : ByteArray} (h : s.size = 0) : s.toList = [] := by rw [ByteArray.toList_eq]; exact List.eq_nil_of_length_eq_zero (by rw [Array.length_toList]; exact h)
theorem isEmpty_neR {s : ByteArray} (h : s.size ≠ 0) : s.toList.isEmpty = false := by
  cases hl : s.toList with
  | nil =>
    rw [ByteArray.toList_eq] at hl
    have := congrArg List.length hl
    rw [Array.length_toList] at this
    exact absurd this h
  | cons a b => rfl
theorem nums_nilR {s : ByteArray} (h : s.size = 0) : nums s = [] := List.eq_nil_of_length_eq_zero (by rw [nums_length]; exact h)
theorem nums_neR {s : ByteArray} (h : s.size ≠ 0) : nums s ≠ [] := fun e => h (by have := nums_length s; rw [e] at this; exact this.symm)
/-- what the digits D to the base b come to. -/
def digOut (b : Int) (D : List Int) : Int × Bool × Bool := if D = [] then (0, false, false) else match valN b 0 D with
  | none => (0, false, false)
  | some v => if chB v then (v, true, true) else (0, true, false)
theorem numN_dig (t : List Int) : numN (35 :: t) = digOut (digN t).1 (digN t).2 := by rw [numN]; rfl
theorem digOut_nil (b : Int) : digOut b [] = (0, false, false) := if_pos rfl
theorem digOut_none {b : Int} {D : List Int} (h : valN b 0 D = none) : digOut b D = (0, false, false) := by
  unfold digOut
  rw [h]
  split <;> rfl
theorem digOut_some {b : Int} {D : List Int} (h0 : D ≠ []) {v : Int} (h : valN b 0 D = some v) : digOut b D = if chB v then (v, true, true) else (0, true, false) := by
  unfold digOut
  rw [if_neg h0, h]
theorem numN_no (l : List Int) (h : l.head? ≠ some 35) : numN l = (0, false, false) := by
  unfold numN
  split
  · exact absurd rfl h
  · rfl
theorem val_go {b v c : Int} {t : List Int} {o : Option Int} (hq : valN b v (c :: t) = o) (h : worthN c < b) : valN b (v * b + worthN c) t = o := by rw [valN, if_pos h] at hq; exact hq
theorem val_no {b v c : Int} {t : List Int} {o : Option Int} (hq : valN b v (c :: t) = o) (h : ¬ worthN c < b) : o = none := by rw [valN, if_neg h] at hq; exact hq.symm
theorem pre_one (l : List UInt8) (c : UInt8) : (Lib.hasPrefix l [c] = true ∧ ∃ t, l = c :: t ∧ Lib.trimPrefix l [c] = t) ∨ (Lib.hasPrefix l [c] = false ∧ l.head? ≠ some c ∧ Lib.trimPrefix l [c] = l) := by
  cases l with
  | nil => right; exact ⟨rfl, by simp, rfl⟩
  | cons d t =>
    by_cases h : c = d
    · subst h
      left
      have : Lib.hasPrefix (c :: t) [c] = true := by simp [Lib.hasPrefix, List.isPrefixOf]
      exact ⟨this, t, rfl, by unfold Lib.trimPrefix; rw [if_pos this]; rfl⟩
    · right
      have h' : (c == d) = false := by simpa using h
      have : Lib.hasPrefix (d :: t) [c] = false := by simp [Lib.hasPrefix, List.isPrefixOf, h']
      exact ⟨this, by simpa using fun e : d = c => h e.symm, by unfold Lib.trimPrefix; rw [this]; rfl⟩
/-- a number that is held at a bound. -/
theorem min_next (b M v d : Int) (hb : 1 ≤ b) (hM : 0 ≤ M) (hd : 0 ≤ d) (hv : 0 ≤ v) : min (min v M * b + d) M = min (v * b + d) M := val_min b M hb hM v d hd hv
def numV (p : Int × Bool × Bool) : Value := .tuple #[.int .i64 p.1, .bool p.2.1, .bool p.2.2]
set_option maxRecDepth 100000 in
set_option maxHeartbeats 2000000 in
/-- the digits' loop, from the state in which D and the base are known. -/
theorem refs_Number (s : ByteArray) (w : World) (hs : s.size ≤ 1099511627776) :
    Calls Try.prog 21 #[.string s] w fun e w' => e = .returned (numV (numN (nums s))) ∧ Below w.heap.size w w' := by
  have C1 := fun w => Try.strings_CutPrefix s ⟨#[35]⟩ w
  rcases pre_one s.data.toList 35 with ⟨p1, t, ht, e1⟩ | ⟨p1, hn, e1⟩
  · have hns : nums s = 35 :: numsL t := by rw [← numsL_of, ht]; rfl
    obtain ⟨T, hT⟩ : ∃ T : ByteArray, T = ⟨t.toArray⟩ := ⟨_, rfl⟩
    have hnT : nums T = numsL t := by rw [hT, numsL_mk]
    have hTd : T.data.toList = t := by rw [hT]
    have hTs : T.size ≤ s.size := by
      have h1 := congrArg List.length ht
      rw [Array.length_toList, List.length_cons] at h1
      have h2 : T.size = t.length := by rw [hT]; simp [ByteArray.size]
      have h3 : s.data.size = s.size := rfl
      omega
    have D1 : ∀ w, Calls Try.prog 38 #[.string s, .string ⟨#[35]⟩] w fun e w' => e = .returned (.tuple #[.string T, .bool true]) ∧ w' = w := by
      intro w
      have := C1 w
      rw [show (⟨#[35]⟩ : ByteArray).data.toList = [35] from rfl, e1, p1, ← hT] at this
      exact this
    have C2 := fun w => Try.strings_CutPrefix T ⟨#[120]⟩ w
    -- what is left of the digits, and the base
    obtain ⟨b, D, x, hb, hD, hDs, hnum, D2⟩ : ∃ (b : Int) (D : ByteArray) (U : ByteArray), (b = 10 ∨ b = 16) ∧ True ∧ D.size ≤ s.size ∧ numN (nums s) = digOut b (nums D) ∧
        ((b = 16 ∧ ∀ w, Calls Try.prog 38 #[.string T, .string ⟨#[120]⟩] w fun e w' => e = .returned (.tuple #[.string D, .bool true]) ∧ w' = w) ∨ (b = 10 ∧ D = T ∧ ∀ w, Calls Try.prog 38 #[.string T, .string ⟨#[120]⟩] w fun e w' => e = .returned (.tuple #[.string T, .bool false]) ∧ w' = w)) := by
      rcases pre_one T.data.toList 120 with ⟨p2, u, hu, e2⟩ | ⟨p2, hn2, e2⟩
      · refine ⟨16, ⟨u.toArray⟩, T, .inr rfl, trivial, ?_, ?_, .inl ⟨rfl, fun w => ?_⟩⟩
        · have h1 := congrArg List.length hu
          rw [Array.length_toList, List.length_cons] at h1
          have h2 : (⟨u.toArray⟩ : ByteArray).size = u.length := by simp [ByteArray.size]
          have h3 : T.data.size = T.size := rfl
          omega
        · rw [hns, ← hTd, hu, numN_dig]
          show digOut (digN (120 :: numsL u)).1 (digN (120 :: numsL u)).2 = _
          rw [numsL_mk]; rfl
        · have := C2 w
          rw [show (⟨#[120]⟩ : ByteArray).data.toList = [120] from rfl, e2, p2] at this
          exact this
      · refine ⟨10, T, T, .inl rfl, trivial, hTs, ?_, .inr ⟨rfl, rfl, fun w => ?_⟩⟩
        · rw [hns, numN_dig, hnT, ← hTd]
          have hdg : digN (numsL T.data.toList) = (10, numsL T.data.toList) := by
            cases hl : T.data.toList with
            | nil => rfl
            | cons c r =>
              rw [hl] at hn2
              have : ¬ ((c.toNat : Int) = 120) := fun e => hn2 (by rw [(u8_eq c 120 (by decide)).1 e]; rfl)
              show digN ((c.toNat : Int) :: numsL r) = _
              unfold digN
              split
              · rename_i h; injection h with h1 h2; exact absurd h1 this
              · rfl
          rw [hdg]
        · have := C2 w
          rw [show (⟨#[120]⟩ : ByteArray).data.toList = [120] from rfl, e2, p2] at this
          have hmk : (⟨T.data.toList.toArray⟩ : ByteArray) = T := by cases T; simp
          rw [hmk] at this
          exact this
    clear hD
    rw [hnum]
    clear C1 C2 hns hT hnT hTd ht e1 p1 hnum
    have HD1 := Lib.hid D1
    clear D1
    by_cases hD0 : D.size = 0
    · have hs0 := toList_nilR hD0
      have HO := Lib.hid (show digOut b (nums D) = (0, false, false) by rw [nums_nilR hD0]; exact digOut_nil b)
      rcases D2 with ⟨rfl, D2⟩ | ⟨rfl, rfl, D2⟩
      all_goals
        have HD2 := Lib.hid D2
        clear D2
        go_enter Try.func21, Try.ntmps21
        go_wp2_with fail
        refine (HD1.out _).mono ?_
        rintro e w' ⟨rfl, rfl⟩
        go_wp2_with fail
        refine (HD2.out _).mono ?_
        rintro e w' ⟨rfl, rfl⟩
        go_wp2
        go_ret3
        exact ⟨by rw [HO.out]; rfl, Below.refl _ _⟩
    · have hs0 := isEmpty_neR hD0
      have hne := nums_neR hD0
      have HNO := Lib.hid (fun h => digOut_none (b := b) (D := nums D) h)
      have HSO := Lib.hid (fun v h => digOut_some (b := b) (D := nums D) hne (v := v) h)
      have hcv := Lib.run_convert_string_bytes (P := Try.prog) w 9 37 5 D Try.underlying9 Try.underlying37 Try.underlying5
      have hrow := LowRow.made w 5 D
      have hbl := bytes_below w 5 D
      obtain ⟨cap, hcap⟩ : ∃ cap, grownCap w D.size 0 5 = cap := ⟨_, rfl⟩
      obtain ⟨w2, hw2⟩ : ∃ w2, Lib.bytesWorld w 5 D = w2 := ⟨_, rfl⟩
      rw [hcap, hw2] at hcv
      rw [hw2] at hrow hbl
      clear hw2 hcap hne
      obtain ⟨p, hp⟩ : ∃ p, w.heap.size = p := ⟨_, rfl⟩
      have HP := Lib.hid hp
      rw [hp] at hcv hrow hbl
      have hps : p ≤ w2.heap.size := by rw [← hp]; exact hbl.size
      clear hp
      rcases D2 with ⟨rfl, D2⟩ | ⟨rfl, rfl, D2⟩
      · have HD2 := Lib.hid D2
        clear D2
        go_enter Try.func21, Try.ntmps21
        go_wp2_with fail
        refine (HD1.out _).mono ?_
        rintro e w' ⟨rfl, rfl⟩
        go_wp2_with fail
        refine (HD2.out _).mono ?_
        rintro e w' ⟨rfl, rfl⟩
        go_wp2_with fail
        go_loop [2, 33] (fun r i => ∃ (k : Nat) (v m : Int), i = .int .i64 k ∧ r = .int .i64 m ∧ Hid (min v 1073741824 = m) ∧ k ≤ D.size ∧ 0 ≤ v ∧ valN 16 v ((nums D).drop k) = valN 16 0 (nums D)) (fun _ i => D.size - (intOf i).toNat)
        case atStart => exact ⟨0, 0, 0, rfl, rfl, Lib.hid rfl, by omega, by omega, rfl⟩
        case round =>
          obtain ⟨k, v, m, rfl, rfl, HMV, hk, hv0, hq⟩ := hrel
          have hm0 : 0 ≤ m := by have := HMV.out; omega
          have hm1 : m ≤ 1073741824 := by have := HMV.out; omega
          by_cases hlt : k < D.size
          · have hca := hrow.cellAt k (by rw [nums_length]; exact hlt)
            obtain ⟨c, hc⟩ : ∃ c : Int, (D[k].toNat : Int) = c := ⟨_, rfl⟩
            rw [nums_at D k hlt, hc] at hca
            rw [nums_drop D k hlt, hc] at hq
            have hc0 : 0 ≤ c ∧ c < 256 := by have := D[k].toNat_lt; omega
            obtain ⟨hc1, hc2⟩ := hc0
            have hd0 := worthN_lo c
            clear hc
            by_cases hd : worthN c < 16
            · have hmn := min_next 16 1073741824 v (worthN c) (by omega) (by omega) hd0.1 hv0
              have hnx := val_go hq hd
              have HX := Lib.hid hnx
              have HW := Lib.hid (fun w => refs_worth c w hc1 hc2)
              have hv1 : 0 ≤ v * 16 + worthN c := by omega
              obtain ⟨d, hdd⟩ : ∃ d, worthN c = d := ⟨_, rfl⟩
              rw [hdd] at HX HW hmn hv1 hd hd0
              rw [HMV.out] at hmn
              have HM := Lib.hid hmn
              clear hnx hq hdd hmn hv0
              go_wp2_with (go_at_call 39; refine (HW.out _).mono ?_; rintro e w' ⟨rfl, rfl⟩)
              exact ⟨⟨k + 1, v * 16 + d, _, by go_num, rfl, Lib.hid HM.out.symm, by omega, hv1, HX.out⟩, by simp [intOf]; omega⟩
            · have hnx := val_no hq hd
              have HX := Lib.hid (HNO.out hnx)
              have HW := Lib.hid (fun w => refs_worth c w hc1 hc2)
              obtain ⟨d, hdd⟩ : ∃ d, worthN c = d := ⟨_, rfl⟩
              rw [hdd] at HW hd
              have hd' : 16 ≤ d := by omega
              clear hnx hq hdd hd
              go_wp2_with (go_at_call 39; refine (HW.out _).mono ?_; rintro e w' ⟨rfl, rfl⟩)
              go_ret3
              exact ⟨by rw [HX.out]; rfl, by rw [HP.out]; exact hbl⟩
          · rw [nums_drop_end D k (by omega), valN] at hq
            have HX := Lib.hid (HSO.out v hq.symm)
            have hcm := ch_min 1073741824 v (by omega)
            rw [HMV.out] at hcm
            have HC := Lib.hid (fun w => chars_Char m w)
            rw [hcm.1] at HC
            cases hch : chB v with
            | true =>
              rw [hch, if_pos rfl] at HX
              rw [hch] at HC
              have HV := Lib.hid (hcm.2 hch)
              clear hq hch hcm
              go_wp2_with (go_at_call 40; refine (HC.out _).mono ?_; rintro e w3 ⟨rfl, hb3⟩)
              go_ret3
              exact ⟨by rw [HX.out, HV.out]; rfl, by rw [HP.out]; exact hbl.trans (hb3.mono hps)⟩
            | false =>
              rw [hch, if_neg (by decide)] at HX
              rw [hch] at HC
              clear hq hch hcm
              go_wp2_with (go_at_call 40; refine (HC.out _).mono ?_; rintro e w3 ⟨rfl, hb3⟩)
              go_ret3
              exact ⟨by rw [HX.out]; rfl, by rw [HP.out]; exact hbl.trans (hb3.mono hps)⟩
      · have HD2 := Lib.hid D2
        clear D2
        go_enter Try.func21, Try.ntmps21
        go_wp2_with fail
        refine (HD1.out _).mono ?_
        rintro e w' ⟨rfl, rfl⟩
        go_wp2_with fail
        refine (HD2.out _).mono ?_
        rintro e w' ⟨rfl, rfl⟩
        go_wp2_with fail
        go_loop [2, 33] (fun r i => ∃ (k : Nat) (v m : Int), i = .int .i64 k ∧ r = .int .i64 m ∧ Hid (min v 1073741824 = m) ∧ k ≤ D.size ∧ 0 ≤ v ∧ valN 10 v ((nums D).drop k) = valN 10 0 (nums D)) (fun _ i => D.size - (intOf i).toNat)
        case atStart => exact ⟨0, 0, 0, rfl, rfl, Lib.hid rfl, by omega, by omega, rfl⟩
        case round =>
          obtain ⟨k, v, m, rfl, rfl, HMV, hk, hv0, hq⟩ := hrel
          have hm0 : 0 ≤ m := by have := HMV.out; omega
          have hm1 : m ≤ 1073741824 := by have := HMV.out; omega
          by_cases hlt : k < D.size
          · have hca := hrow.cellAt k (by rw [nums_length]; exact hlt)
            obtain ⟨c, hc⟩ : ∃ c : Int, (D[k].toNat : Int) = c := ⟨_, rfl⟩
            rw [nums_at D k hlt, hc] at hca
            rw [nums_drop D k hlt, hc] at hq
            have hc0 : 0 ≤ c ∧ c < 256 := by have := D[k].toNat_lt; omega
            obtain ⟨hc1, hc2⟩ := hc0
            have hd0 := worthN_lo c
            clear hc
            by_cases hd : worthN c < 10
            · have hmn := min_next 10 1073741824 v (worthN c) (by omega) (by omega) hd0.1 hv0
              have hnx := val_go hq hd
              have HX := Lib.hid hnx
              have HW := Lib.hid (fun w => refs_worth c w hc1 hc2)
              have hv1 : 0 ≤ v * 10 + worthN c := by omega
              obtain ⟨d, hdd⟩ : ∃ d, worthN c = d := ⟨_, rfl⟩
              rw [hdd] at HX HW hmn hv1 hd hd0
              rw [HMV.out] at hmn
              have HM := Lib.hid hmn
              clear hnx hq hdd hmn hv0
              go_wp2_with (go_at_call 39; refine (HW.out _).mono ?_; rintro e w' ⟨rfl, rfl⟩)
              exact ⟨⟨k + 1, v * 10 + d, _, by go_num, rfl, Lib.hid HM.out.symm, by omega, hv1, HX.out⟩, by simp [intOf]; omega⟩
            · have hnx := val_no hq hd
              have HX := Lib.hid (HNO.out hnx)
              have HW := Lib.hid (fun w => refs_worth c w hc1 hc2)
              obtain ⟨d, hdd⟩ : ∃ d, worthN c = d := ⟨_, rfl⟩
              rw [hdd] at HW hd
              have hd' : 10 ≤ d := by omega
              clear hnx hq hdd hd
              go_wp2_with (go_at_call 39; refine (HW.out _).mono ?_; rintro e w' ⟨rfl, rfl⟩)
              go_ret3
              exact ⟨by rw [HX.out]; rfl, by rw [HP.out]; exact hbl⟩
          · rw [nums_drop_end D k (by omega), valN] at hq
            have HX := Lib.hid (HSO.out v hq.symm)
            have hcm := ch_min 1073741824 v (by omega)
            rw [HMV.out] at hcm
            have HC := Lib.hid (fun w => chars_Char m w)
            rw [hcm.1] at HC
            cases hch : chB v with
            | true =>
              rw [hch, if_pos rfl] at HX
              rw [hch] at HC
              have HV := Lib.hid (hcm.2 hch)
              clear hq hch hcm
              go_wp2_with (go_at_call 40; refine (HC.out _).mono ?_; rintro e w3 ⟨rfl, hb3⟩)
              go_ret3
              exact ⟨by rw [HX.out, HV.out]; rfl, by rw [HP.out]; exact hbl.trans (hb3.mono hps)⟩
            | false =>
              rw [hch, if_neg (by decide)] at HX
              rw [hch] at HC
              clear hq hch hcm
              go_wp2_with (go_at_call 40; refine (HC.out _).mono ?_; rintro e w3 ⟨rfl, hb3⟩)
              go_ret3
              exact ⟨by rw [HX.out]; rfl, by rw [HP.out]; exact hbl.trans (hb3.mono hps)⟩
  · have hno := numN_no (nums s) (by
      rw [← numsL_of]
      cases hl : s.data.toList with
      | nil => simp [numsL]
      | cons c r =>
        rw [hl] at hn
        show some (c.toNat : Int) ≠ _
        intro e
        exact hn (by rw [(u8_eq c 35 (by decide)).1 (Option.some.inj e)]; rfl))
    have HN := Lib.hid hno
    have hmk : (⟨s.data.toList.toArray⟩ : ByteArray) = s := by cases s; simp
    have D1 : ∀ w, Calls Try.prog 38 #[.string s, .string ⟨#[35]⟩] w fun e w' => e = .returned (.tuple #[.string s, .bool false]) ∧ w' = w := by
      intro w
      have := C1 w
      rw [show (⟨#[35]⟩ : ByteArray).data.toList = [35] from rfl, e1, p1, hmk] at this
      exact this
    obtain ⟨y, o, D2⟩ : ∃ (y : ByteArray) (o : Bool), ∀ w, Calls Try.prog 38 #[.string s, .string ⟨#[120]⟩] w fun e w' => e = .returned (.tuple #[.string y, .bool o]) ∧ w' = w := ⟨_, _, fun w => Try.strings_CutPrefix s ⟨#[120]⟩ w⟩
    have HD1 := Lib.hid D1
    have HD2 := Lib.hid D2
    clear C1 D1 D2 hno hmk hn e1 p1
    cases o <;>
    · go_enter Try.func21, Try.ntmps21
      go_wp2_with fail
      refine (HD1.out _).mono ?_
      rintro e w' ⟨rfl, rfl⟩
      go_wp2_with fail
      refine (HD2.out _).mono ?_
      rintro e w' ⟨rfl, rfl⟩
      go_wp2
      go_ret3
      exact ⟨by rw [HN.out]; rfl, Below.refl _ _⟩
set_option maxRecDepth 100000 in
set_option maxHeartbeats 2000000 in
theorem ref13_Number (s : ByteArray) (w : World) (hs : s.size ≤ 1099511627776) :
    Calls Try.prog 22 #[.string s] w fun e w' => e = .returned (numV (numN (nums s))) ∧ w = w' := by
  by_cases h2 : s.size < 2
  · have HN := Lib.hid (show numN (nums s) = (0, false, false) by
      by_cases h0 : s.size = 0
      · rw [nums_nilR h0]; rfl
      · have h1 : 0 < s.size := by omega
        have e := nums_drop s 0 h1
        rw [List.drop_zero, nums_drop_end s 1 (by omega)] at e
        rw [e]
        by_cases hc : (s[0].toNat : Int) = 35
        · rw [hc]; rfl
        · exact numN_no _ (by simpa using hc))
    go_enter Try.func22, Try.ntmps22
    go_wp2
    go_ret3
    exact ⟨by rw [HN.out]; rfl, rfl⟩
  · have e0 := nums_drop s 0 (by omega)
    rw [List.drop_zero] at e0
    obtain ⟨c, hc⟩ : ∃ c : Int, (s[0].toNat : Int) = c := ⟨_, rfl⟩
    have hi0 := index_str s 0 (by omega) c 0 hc rfl
    rw [hc] at e0
    by_cases h35 : c = 35
    · have hq1 : (c != 35) = false := by simp [h35]
      rw [h35] at e0
      have e1 := nums_drop s 1 (by omega)
      obtain ⟨d, hd⟩ : ∃ d : Int, (s[1].toNat : Int) = d := ⟨_, rfl⟩
      have hi1 := index_str s 1 (by omega) d 1 hd rfl
      rw [hd] at e1
      clear hc hd
      have key : ∃ (b a : Nat), ((d = 120 ∧ b = 16 ∧ a = 2) ∨ (d ≠ 120 ∧ b = 10 ∧ a = 1)) ∧ numN (nums s) = digOut b ((nums s).drop a) := by
        by_cases hx : d = 120
        · refine ⟨16, 2, .inl ⟨hx, rfl, rfl⟩, ?_⟩
          conv => lhs; rw [e0, numN_dig, e1, hx]
          rfl
        · refine ⟨10, 1, .inr ⟨hx, rfl, rfl⟩, ?_⟩
          conv => lhs; rw [e0, numN_dig]
          have hdg : digN ((nums s).drop 1) = (10, (nums s).drop 1) := by
            rw [e1]
            unfold digN
            split
            · rename_i h; injection h with h1 h2; exact absurd h1 hx
            · rfl
          rw [hdg]; rfl
      obtain ⟨b, a, hba, hnum⟩ := key
      rw [hnum]
      clear e0 e1 hnum
      by_cases ha : a = s.size
      · have HO := Lib.hid (show digOut b ((nums s).drop a) = (0, false, false) by rw [nums_drop_end s a (by omega)]; exact digOut_nil _)
        rcases hba with ⟨rfl, rfl, rfl⟩ | ⟨hx, rfl, rfl⟩
        · have hl2 : ((2 : Int) == (s.size : Int)) = true := by simp; omega
          have hlo : 2 ≤ s.size := by omega
          clear ha h2
          go_enter Try.func22, Try.ntmps22
          go_wp2
          go_ret3
          exact ⟨by rw [HO.out]; rfl, rfl⟩
        · omega
      · have hlt : a < s.size := by omega
        have hne : (nums s).drop a ≠ [] := by simp [nums_length]; omega
        have HNO := Lib.hid (fun h => digOut_none (b := b) (D := (nums s).drop a) h)
        have HSO := Lib.hid (fun v h => digOut_some (b := b) (D := (nums s).drop a) hne (v := v) h)
        clear hne
        rcases hba with ⟨rfl, rfl, rfl⟩ | ⟨hx, rfl, rfl⟩
        · have hl2 : ((2 : Int) == (s.size : Int)) = false := by simp; omega
          go_enter Try.func22, Try.ntmps22
          go_wp2_with fail
          go_loop [7, 8] (fun r i => ∃ (k : Nat) (v m : Int), i = .int .i64 k ∧ r = .int .i64 m ∧ Hid (min v 16777216 = m) ∧ k ≤ s.size ∧ 2 ≤ k ∧ 0 ≤ v ∧ valN 16 v ((nums s).drop k) = valN 16 0 ((nums s).drop 2)) (fun _ i => s.size - (intOf i).toNat)
          case atStart => exact ⟨2, 0, 0, rfl, rfl, Lib.hid rfl, by omega, by omega, by omega, rfl⟩
          case round =>
            obtain ⟨k, v, m, rfl, rfl, HMV, hk, hk2, hv0, hq⟩ := hrel
            have hm0 : 0 ≤ m := by have := HMV.out; omega
            have hm1 : m ≤ 16777216 := by have := HMV.out; omega
            by_cases hlt2 : k < s.size
            · obtain ⟨c2, hc2⟩ : ∃ c : Int, (s[k].toNat : Int) = c := ⟨_, rfl⟩
              have hik := index_str s k hlt2 c2 k hc2 rfl
              rw [nums_drop s k hlt2, hc2] at hq
              have hcc : 0 ≤ c2 ∧ c2 < 256 := by have := s[k].toNat_lt; omega
              obtain ⟨hcc1, hcc2⟩ := hcc
              have hd0 := worthN_lo c2
              have HW := Lib.hid (fun w => ref13_digit c2 16 w hcc1 hcc2 (by omega) (by omega))
              clear hc2
              by_cases hd : worthN c2 < 16
              · have hmn := min_next 16 16777216 v (worthN c2) (by omega) (by omega) hd0.1 hv0
                have hnx := val_go hq hd
                have HX := Lib.hid hnx
                have hv1 : 0 ≤ v * 16 + worthN c2 := by omega
                have hdr : digR c2 16 = worthN c2 := if_pos hd
                rw [hdr] at HW
                obtain ⟨e2, hdd⟩ : ∃ d, worthN c2 = d := ⟨_, rfl⟩
                rw [hdd] at HX HW hmn hv1 hd hd0
                rw [HMV.out] at hmn
                have HM := Lib.hid hmn
                have hd1 := hd0.1
                clear hnx hq hdd hmn hv0 hdr
                go_wp2_with (go_at_call 41; refine (HW.out _).mono ?_; rintro e w' ⟨rfl, rfl⟩)
                exact ⟨⟨k + 1, v * 16 + e2, _, by go_num, rfl, Lib.hid HM.out.symm, by omega, by omega, hv1, HX.out⟩, by simp [intOf]; omega⟩
              · have hnx := val_no hq hd
                have HX := Lib.hid (HNO.out hnx)
                have hdr : digR c2 16 = -1 := if_neg hd
                rw [hdr] at HW
                clear hnx hq hd hdr
                go_wp2_with (go_at_call 41; refine (HW.out _).mono ?_; rintro e w' ⟨rfl, rfl⟩)
                go_ret3
                exact ⟨by rw [HX.out]; rfl, rfl⟩
            · rw [nums_drop_end s k (by omega), valN] at hq
              have HX := Lib.hid (HSO.out v hq.symm)
              have hcm := ch_min 16777216 v (by omega)
              rw [HMV.out] at hcm
              have HC := Lib.hid (fun w => ref09_Char m w)
              rw [hcm.1] at HC
              cases hch : chB v with
              | true =>
                rw [hch, if_pos rfl] at HX
                rw [hch] at HC
                have HV := Lib.hid (hcm.2 hch)
                clear hq hch hcm
                go_wp2_with (go_at_call 23; refine (HC.out _).mono ?_; rintro e w3 ⟨rfl, rfl⟩)
                go_ret3
                exact ⟨by rw [HX.out, HV.out]; rfl, rfl⟩
              | false =>
                rw [hch, if_neg (by decide)] at HX
                rw [hch] at HC
                clear hq hch hcm
                go_wp2_with (go_at_call 23; refine (HC.out _).mono ?_; rintro e w3 ⟨rfl, rfl⟩)
                go_ret3
                exact ⟨by rw [HX.out]; rfl, rfl⟩
        · have hl2 : ((1 : Int) == (s.size : Int)) = false := by simp; omega
          have hx1 : (d == 120) = false := by simpa using hx
          go_enter Try.func22, Try.ntmps22
          go_wp2_with fail
          go_loop [7, 8] (fun r i => ∃ (k : Nat) (v m : Int), i = .int .i64 k ∧ r = .int .i64 m ∧ Hid (min v 16777216 = m) ∧ k ≤ s.size ∧ 1 ≤ k ∧ 0 ≤ v ∧ valN 10 v ((nums s).drop k) = valN 10 0 ((nums s).drop 1)) (fun _ i => s.size - (intOf i).toNat)
          case atStart => exact ⟨1, 0, 0, rfl, rfl, Lib.hid rfl, by omega, by omega, by omega, rfl⟩
          case round =>
            obtain ⟨k, v, m, rfl, rfl, HMV, hk, hk2, hv0, hq⟩ := hrel
            have hm0 : 0 ≤ m := by have := HMV.out; omega
            have hm1 : m ≤ 16777216 := by have := HMV.out; omega
            by_cases hlt2 : k < s.size
            · obtain ⟨c2, hc2⟩ : ∃ c : Int, (s[k].toNat : Int) = c := ⟨_, rfl⟩
              have hik := index_str s k hlt2 c2 k hc2 rfl
              rw [nums_drop s k hlt2, hc2] at hq
              have hcc : 0 ≤ c2 ∧ c2 < 256 := by have := s[k].toNat_lt; omega
              obtain ⟨hcc1, hcc2⟩ := hcc
              have hd0 := worthN_lo c2
              have HW := Lib.hid (fun w => ref13_digit c2 10 w hcc1 hcc2 (by omega) (by omega))
              clear hc2
              by_cases hd : worthN c2 < 10
              · have hmn := min_next 10 16777216 v (worthN c2) (by omega) (by omega) hd0.1 hv0
                have hnx := val_go hq hd
                have HX := Lib.hid hnx
                have hv1 : 0 ≤ v * 10 + worthN c2 := by omega
                have hdr : digR c2 10 = worthN c2 := if_pos hd
                rw [hdr] at HW
                obtain ⟨e2, hdd⟩ : ∃ d, worthN c2 = d := ⟨_, rfl⟩
                rw [hdd] at HX HW hmn hv1 hd hd0
                rw [HMV.out] at hmn
                have HM := Lib.hid hmn
                have hd1 := hd0.1
                clear hnx hq hdd hmn hv0 hdr
                go_wp2_with (go_at_call 41; refine (HW.out _).mono ?_; rintro e w' ⟨rfl, rfl⟩)
                exact ⟨⟨k + 1, v * 10 + e2, _, by go_num, rfl, Lib.hid HM.out.symm, by omega, by omega, hv1, HX.out⟩, by simp [intOf]; omega⟩
              · have hnx := val_no hq hd
                have HX := Lib.hid (HNO.out hnx)
                have hdr : digR c2 10 = -1 := if_neg hd
                rw [hdr] at HW
                clear hnx hq hd hdr
                go_wp2_with (go_at_call 41; refine (HW.out _).mono ?_; rintro e w' ⟨rfl, rfl⟩)
                go_ret3
                exact ⟨by rw [HX.out]; rfl, rfl⟩
            · rw [nums_drop_end s k (by omega), valN] at hq
              have HX := Lib.hid (HSO.out v hq.symm)
              have hcm := ch_min 16777216 v (by omega)
              rw [HMV.out] at hcm
              have HC := Lib.hid (fun w => ref09_Char m w)
              rw [hcm.1] at HC
              cases hch : chB v with
              | true =>
                rw [hch, if_pos rfl] at HX
                rw [hch] at HC
                have HV := Lib.hid (hcm.2 hch)
                clear hq hch hcm
                go_wp2_with (go_at_call 23; refine (HC.out _).mono ?_; rintro e w3 ⟨rfl, rfl⟩)
                go_ret3
                exact ⟨by rw [HX.out, HV.out]; rfl, rfl⟩
              | false =>
                rw [hch, if_neg (by decide)] at HX
                rw [hch] at HC
                clear hq hch hcm
                go_wp2_with (go_at_call 23; refine (HC.out _).mono ?_; rintro e w3 ⟨rfl, rfl⟩)
                go_ret3
                exact ⟨by rw [HX.out]; rfl, rfl⟩
    · have hq1 : (c != 35) = true := by simpa using h35
      have HN := Lib.hid (numN_no (nums s) (by rw [e0]; simpa using h35))
      clear e0 hc
      go_enter Try.func22, Try.ntmps22
      go_wp2
      go_ret3
      exact ⟨by rw [HN.out]; rfl, rfl⟩
end Go.Proofs.Ytkdkoondchbekaa
