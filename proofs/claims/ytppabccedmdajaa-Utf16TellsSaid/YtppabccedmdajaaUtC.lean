/-
  The walks of Encode, in utf16 and in the reference; Units, Valid.
-/
import Derived.Test.YtppabccedmdajaaUtA
import Derived.Test.YtppabccedmdajaaU8F
namespace Go.Proofs.Ytppabccedmdajaa
open Go.RowKit
def encB (big : Bool) (s : ByteArray) : ByteArray := if okAll (nums s) then strOfNums (enc16 big (scalL (nums s))) else ⟨#[]⟩
def encC (s : ByteArray) : Int := if okAll (nums s) then 0 else 70
theorem enc16_take (big : Bool) (xs : List Int) (k : Nat) (h : k < xs.length) : enc16 big (xs.take (k + 1)) = enc16 big (xs.take k) ++ encU big xs[k] := by
  rw [take_snoc xs k h, enc16_append]
  simp [enc16]
theorem scalL_len (l : List Int) : (scalL l).length ≤ l.length := by
  unfold scalL
  split
  · rw [List.length_map]; exact pieces_len _ _
  · exact Nat.zero_le _
theorem i64_or10 (x y : Int) (h0 : 0 ≤ x) (h1 : x < 1152921504606846976) (h2 : x % 1024 = 0) (h3 : 0 ≤ y) (h4 : y < 1024) : bits .or .i64 x y = x + y :=
  bits_join .i64 62 (by decide) wraps_i64 10 x y h0 h2 (by omega) h3 h4 (by omega)
theorem enc16_le (big : Bool) (xs : List Int) : (enc16 big xs).length ≤ 4 * xs.length := by
  have := enc16_len big xs
  have := (unitsN_lo xs).2
  omega
set_option maxRecDepth 100000 in
set_option maxHeartbeats 4000000 in
theorem utf16_Encode (big : Bool) (s : ByteArray) (w : World) (hs : s.size ≤ 100000) :
    Calls Try.prog 11 #[.string s, .bool big] w fun e w' => e = .returned (.tuple #[.string (encB big s), .int .i64 (encC s)]) ∧ Below w.heap.size w w' := by
  have HSC := fun w => utf8_Scalars s w (by omega)
  obtain ⟨ok, hok⟩ : ∃ ok, okAll (nums s) = ok := ⟨_, rfl⟩
  have hl := scalL_len (nums s)
  rw [nums_length] at hl
  cases ok with
  | false =>
    have HEB := Lib.hid (show encB big s = ⟨#[]⟩ by unfold encB; rw [hok]; rfl)
    have HEC := Lib.hid (show encC s = 70 by unfold encC; rw [hok]; rfl)
    simp only [hok] at HSC
    clear hok
    go_enter Try.func11, Try.ntmps11
    go_wp2_with fail
    refine (HSC _).mono ?_
    rintro e w1 ⟨v, rfl, -, hb⟩
    go_wp2_with fail
    go_ret2
    exact ⟨by rw [HEB.out, HEC.out]; rfl, hb⟩
  | true =>
    have hsx := (ok_scal (nums s) (nums_isBs s) hok).1
    have HEB := Lib.hid (show encB big s = strOfNums (enc16 big (scalL (nums s))) by unfold encB; rw [hok]; rfl)
    have HEC := Lib.hid (show encC s = 0 by unfold encC; rw [hok]; rfl)
    simp only [hok] at HSC
    obtain ⟨xs, hxs⟩ : ∃ xs, scalL (nums s) = xs := ⟨_, rfl⟩
    rw [hxs] at hl hsx HEB
    simp only [hxs] at HSC
    clear hok hxs
    go_enter Try.func11, Try.ntmps11
    go_wp2_with fail
    refine (HSC _).mono ?_
    rintro e w1 ⟨v, rfl, ho, hb1⟩
    obtain ⟨a, cap, rfl, hmx, hc⟩ := (Reads.of_own ho (by unfold maxLen; omega)).open
    clear ho HSC
    go_wp2_with fail
    go_loopw [9, 23] (fun b i wr => ∃ k : Nat, i = .int .i64 k ∧ k ≤ xs.length ∧ wr.ownsRow w1.heap.size 5 1 b (enc16 big (xs.take k)).length ((enc16 big (xs.take k)).map (Value.int .u8)) ∧ Below w1.heap.size w1 wr) (fun _ i _ => xs.length - (intOf i).toNat)
    case atStart => exact ⟨0, rfl, by omega, World.ownsRow_nil _ _ _ _, Below.refl _ _⟩
    case round =>
      obtain ⟨k, rfl, hk, hown, hb⟩ := hrel
      by_cases hlt : k < xs.length
      · obtain ⟨b0, off, rfl, hbB, hcx⟩ := hc k hlt
        have hcx1 := (hb.cell (p := ⟨b0, off + k, none⟩) (by simpa using hbB)).trans hcx
        have hsn := enc16_take big xs k hlt
        have hle := enc16_le big (xs.take k)
        have hlen : (xs.take k).length ≤ xs.length := by rw [List.length_take]; omega
        have hx0 := (isSc_iff _).1 (scAll_mem hsx (List.getElem_mem hlt))
        obtain ⟨x, hx⟩ : ∃ x, xs[k] = x := ⟨_, rfl⟩
        rw [hx] at hcx1 hsn hx0
        obtain ⟨acc, hacc⟩ : ∃ acc, enc16 big (xs.take k) = acc := ⟨_, rfl⟩
        rw [hacc] at hown hsn hle
        obtain ⟨hx1, hx2, hx3⟩ := hx0
        by_cases hbig : 65536 ≤ x
        · obtain ⟨y, hy⟩ : ∃ y, x - 65536 = y := ⟨_, rfl⟩
          have hy0 : 0 ≤ y := by omega
          have hy1 : y < 1048576 := by omega
          have hEU : encU big x = put16 big (55296 + y / 1024) ++ put16 big (56320 + y % 1024) := by unfold encU; rw [if_pos hbig, hy]
          rw [hEU] at hsn
          have p1 : (x / 65536 == 0) = false := by simp; omega
          have a1 := i64_and1023 y
          obtain ⟨yd, hyd⟩ : ∃ yd, y / 1024 = yd := ⟨_, rfl⟩
          obtain ⟨ym, hym⟩ : ∃ ym, y % 1024 = ym := ⟨_, rfl⟩
          have yd0 : 0 ≤ yd := by omega
          have yd1 : yd < 1024 := by omega
          have ym0 : 0 ≤ ym := by omega
          have ym1 : ym < 1024 := by omega
          have o1 := i64_or10 55296 yd (by omega) (by omega) (by decide) yd0 yd1
          have o2 := i64_or10 56320 ym (by omega) (by omega) (by decide) ym0 ym1
          rw [hym] at a1
          rw [hyd, hym] at hsn
          have HSN := Lib.hid hsn
          clear hsn hcx hc hx hacc hEU hbig hx1 hx2 hx3 hym hsx
          go_wp2_with fail
          refine (utf16_put big (55296 + yd) (by omega) (by omega) w1.heap.size _ acc _ hown (by omega) hb.size).mono ?_
          rintro e w3 ⟨v3, rfl, ho3, hb3⟩
          have h16 := put16_len big (55296 + yd)
          go_wp2_with fail
          refine (utf16_put big (56320 + ym) (by omega) (by omega) w1.heap.size _ _ _ ho3 (by rw [List.length_append]; omega) (hb.trans hb3).size).mono ?_
          rintro e w4 ⟨v4, rfl, ho4, hb4⟩
          rw [List.append_assoc, ← HSN.out] at ho4
          go_wp2_with fail
          exact ⟨⟨k + 1, by go_num, by omega, ho4, (hb.trans hb3).trans hb4⟩, by simp [intOf]; omega⟩
        · have p1 : (x / 65536 == 0) = true := by simp; omega
          have hEU : encU big x = put16 big x := by unfold encU; rw [if_neg hbig]
          rw [hEU] at hsn
          have HSN := Lib.hid hsn
          have hx4 : x < 65536 := by omega
          clear hsn hcx hc hx hacc hEU hbig hx2 hx3 hsx
          go_wp2_with fail
          refine (utf16_put big x hx1 hx4 w1.heap.size _ acc _ hown (by omega) hb.size).mono ?_
          rintro e w3 ⟨v3, rfl, ho3, hb3⟩
          rw [← HSN.out] at ho3
          go_wp2_with fail
          exact ⟨⟨k + 1, by go_num, by omega, ho3, hb.trans hb3⟩, by simp [intOf]; omega⟩
      · obtain rfl : k = xs.length := by omega
        rw [List.take_of_length_le (Nat.le_refl _)] at hown
        have hcv := conv_own wr w1.heap.size _ _ _ hown
        clear hc hown
        go_wp2_with fail
        go_ret2
        exact ⟨by rw [HEB.out, HEC.out]; rfl, hb1.trans (hb.mono hb1.size)⟩
set_option maxRecDepth 100000 in
set_option maxHeartbeats 4000000 in
theorem ref03_Encode (big : Bool) (s : ByteArray) (w : World) (hs : s.size ≤ 100000) :
    Calls Try.prog 16 #[.string s, .bool big] w fun e w' => e = .returned (.tuple #[.string (encB big s), .int .i64 (encC s)]) ∧ Below w.heap.size w w' := by
  have HSC := fun w => ref02_Scalars s w (by omega)
  have HVA := fun w => ref02_Valid s w (by omega)
  obtain ⟨ok, hok⟩ : ∃ ok, okAll (nums s) = ok := ⟨_, rfl⟩
  have hl := scalL_len (nums s)
  rw [nums_length] at hl
  simp only [hok] at HVA
  cases ok with
  | false =>
    have HEB := Lib.hid (show encB big s = ⟨#[]⟩ by unfold encB; rw [hok]; rfl)
    have HEC := Lib.hid (show encC s = 70 by unfold encC; rw [hok]; rfl)
    clear hok
    go_enter Try.func16, Try.ntmps16
    go_wp2_with fail
    refine (HVA _).mono ?_
    rintro e w1 ⟨rfl, hb⟩
    go_wp2_with fail
    go_ret2
    exact ⟨by rw [HEB.out, HEC.out]; rfl, hb⟩
  | true =>
    have hsx := (ok_scal (nums s) (nums_isBs s) hok).1
    have HEB := Lib.hid (show encB big s = strOfNums (enc16 big (scalL (nums s))) by unfold encB; rw [hok]; rfl)
    have HEC := Lib.hid (show encC s = 0 by unfold encC; rw [hok]; rfl)
    simp only [hok] at HSC
    obtain ⟨xs, hxs⟩ : ∃ xs, scalL (nums s) = xs := ⟨_, rfl⟩
    rw [hxs] at hl hsx HEB
    simp only [hxs] at HSC
    clear hok hxs
    go_enter Try.func16, Try.ntmps16
    go_wp2_with fail
    refine (HVA _).mono ?_
    rintro e w0 ⟨rfl, hb0⟩
    go_wp2_with fail
    refine (HSC _).mono ?_
    rintro e w1 ⟨v, rfl, ho, hb1'⟩
    have hb1 := hb0.trans (hb1'.mono hb0.size)
    obtain ⟨a, cap, rfl, hmx, hc⟩ := (Reads.of_own ho (by unfold maxLen; omega)).open
    clear ho HSC HVA hb1' hb0
    go_wp2_with fail
    go_loopw [6, 9] (fun b i wr => ∃ k : Nat, i = .int .i64 k ∧ k ≤ xs.length ∧ wr.ownsRow w1.heap.size 5 1 b (enc16 big (xs.take k)).length ((enc16 big (xs.take k)).map (Value.int .u8)) ∧ Below w1.heap.size w1 wr) (fun _ i _ => xs.length - (intOf i).toNat)
    case atStart => exact ⟨0, rfl, by omega, World.ownsRow_nil _ _ _ _, Below.refl _ _⟩
    case round =>
      obtain ⟨k, rfl, hk, hown, hb⟩ := hrel
      by_cases hlt : k < xs.length
      · obtain ⟨b0, off, rfl, hbB, hcx⟩ := hc k hlt
        have hcx1 := (hb.cell (p := ⟨b0, off + k, none⟩) (by simpa using hbB)).trans hcx
        have hsn := enc16_take big xs k hlt
        have hle := enc16_le big (xs.take k)
        have hlen : (xs.take k).length ≤ xs.length := by rw [List.length_take]; omega
        have hx0 := (isSc_iff _).1 (scAll_mem hsx (List.getElem_mem hlt))
        obtain ⟨x, hx⟩ : ∃ x, xs[k] = x := ⟨_, rfl⟩
        rw [hx] at hcx1 hsn hx0
        obtain ⟨acc, hacc⟩ : ∃ acc, enc16 big (xs.take k) = acc := ⟨_, rfl⟩
        rw [hacc] at hown hsn hle
        obtain ⟨hx1, hx2, hx3⟩ := hx0
        by_cases hbig : 65536 ≤ x
        · obtain ⟨y, hy⟩ : ∃ y, x - 65536 = y := ⟨_, rfl⟩
          have hy0 : 0 ≤ y := by omega
          have hy1 : y < 1048576 := by omega
          have hEU : encU big x = put16 big (55296 + y / 1024) ++ put16 big (56320 + y % 1024) := by unfold encU; rw [if_pos hbig, hy]
          rw [hEU] at hsn
          have p1 := decide_eq_true hbig
          have d1 : y.tdiv 1024 = y / 1024 := Int.tdiv_eq_ediv_of_nonneg hy0
          have d2 : y.tmod 1024 = y % 1024 := Int.tmod_eq_emod_of_nonneg hy0
          obtain ⟨yd, hyd⟩ : ∃ yd, y / 1024 = yd := ⟨_, rfl⟩
          obtain ⟨ym, hym⟩ : ∃ ym, y % 1024 = ym := ⟨_, rfl⟩
          have yd0 : 0 ≤ yd := by omega
          have yd1 : yd < 1024 := by omega
          have ym0 : 0 ≤ ym := by omega
          have ym1 : ym < 1024 := by omega
          rw [hyd] at d1
          rw [hym] at d2
          rw [hyd, hym] at hsn
          have HSN := Lib.hid hsn
          clear hsn hcx hc hx hacc hEU hx1 hx2 hx3 hsx
          go_wp2_with fail
          refine (ref03_put big (55296 + yd) (by omega) (by omega) w1.heap.size _ acc _ hown (by omega) hb.size).mono ?_
          rintro e w3 ⟨v3, rfl, ho3, hb3⟩
          have h16 := put16_len big (55296 + yd)
          go_wp2_with fail
          refine (ref03_put big (56320 + ym) (by omega) (by omega) w1.heap.size _ _ _ ho3 (by rw [List.length_append]; omega) (hb.trans hb3).size).mono ?_
          rintro e w4 ⟨v4, rfl, ho4, hb4⟩
          rw [List.append_assoc, ← HSN.out] at ho4
          go_wp2_with fail
          exact ⟨⟨k + 1, by go_num, by omega, ho4, (hb.trans hb3).trans hb4⟩, by simp [intOf]; omega⟩
        · have p1 := decide_eq_false hbig
          have hEU : encU big x = put16 big x := by unfold encU; rw [if_neg hbig]
          rw [hEU] at hsn
          have HSN := Lib.hid hsn
          have hx4 : x < 65536 := by omega
          clear hsn hcx hc hx hacc hEU hx2 hx3 hsx
          go_wp2_with fail
          refine (ref03_put big x hx1 hx4 w1.heap.size _ acc _ hown (by omega) hb.size).mono ?_
          rintro e w3 ⟨v3, rfl, ho3, hb3⟩
          rw [← HSN.out] at ho3
          go_wp2_with fail
          exact ⟨⟨k + 1, by go_num, by omega, ho3, hb.trans hb3⟩, by simp [intOf]; omega⟩
      · obtain rfl : k = xs.length := by omega
        rw [List.take_of_length_le (Nat.le_refl _)] at hown
        have hcv := conv_own wr w1.heap.size _ _ _ hown
        clear hc hown
        go_wp2_with fail
        go_ret2
        exact ⟨by rw [HEB.out, HEC.out]; rfl, hb1.trans (hb.mono hb1.size)⟩
def unitsB (s : ByteArray) : Int := (unitsN (scalL (nums s)) : Nat)
theorem encB_size (big : Bool) (s : ByteArray) : ((encB big s).size : Int) = 2 * unitsB s := by
  unfold encB unitsB
  by_cases h : okAll (nums s) = true
  · rw [if_pos h, strOfNums_size, enc16_len]
    omega
  · rw [if_neg h]
    have : scalL (nums s) = [] := by unfold scalL; rw [if_neg h]
    rw [this]
    rfl
theorem ref03_Units (s : ByteArray) (w : World) (hs : s.size ≤ 100000) :
    Calls Try.prog 19 #[.string s] w fun e w' => e = .returned (.int .i64 (unitsB s)) ∧ Below w.heap.size w w' := by
  have h1 := encB_size false s
  have hbd := (unitsN_lo (scalL (nums s))).2
  have hl := scalL_len (nums s)
  rw [nums_length] at hl
  obtain ⟨n, hn⟩ : ∃ n : Nat, unitsB s = n := ⟨_, rfl⟩
  have hnb : n ≤ 200000 := by
    unfold unitsB at hn
    omega
  have HE := fun w => ref03_Encode false s w hs
  obtain ⟨X, hX⟩ : ∃ X, encB false s = X := ⟨_, rfl⟩
  rw [hX, hn] at h1
  simp only [hX] at HE
  have HN := Lib.hid hn
  clear hX hn hbd hl
  have h2 : ((2 * (n : Int)).tdiv 2) = n := by rw [Int.tdiv_eq_ediv_of_nonneg (by omega)]; omega
  go_enter Try.func19, Try.ntmps19
  go_wp2_with fail
  refine (HE _).mono ?_
  rintro e w1 ⟨rfl, hb⟩
  go_wp2_with fail
  go_ret
  exact ⟨by rw [HN.out]; rfl, hb⟩
theorem unitsN_take (xs : List Int) (k : Nat) (h : k < xs.length) : unitsN (xs.take (k + 1)) = unitsN (xs.take k) + (if 65536 ≤ xs[k] then 2 else 1) := by
  rw [take_snoc xs k h, unitsN_append]
  rfl
set_option maxRecDepth 100000 in
theorem utf16_Units (s : ByteArray) (w : World) (hs : s.size ≤ 100000) :
    Calls Try.prog 13 #[.string s] w fun e w' => e = .returned (.int .i64 (unitsB s)) ∧ Below w.heap.size w w' := by
  have HSC := fun w => utf8_Scalars s w (by omega)
  have hl := scalL_len (nums s)
  rw [nums_length] at hl
  have hsx : ∀ x ∈ scalL (nums s), 0 ≤ x ∧ x ≤ 1114111 := by
    intro x hx
    by_cases h : okAll (nums s) = true
    · have := (isSc_iff x).1 (scAll_mem (ok_scal (nums s) (nums_isBs s) h).1 hx)
      omega
    · unfold scalL at hx
      rw [if_neg h] at hx
      cases hx
  have HU := Lib.hid (show unitsB s = (unitsN (scalL (nums s)) : Nat) from rfl)
  obtain ⟨ok, hok⟩ : ∃ ok, okAll (nums s) = ok := ⟨_, rfl⟩
  obtain ⟨xs, hxs⟩ : ∃ xs, scalL (nums s) = xs := ⟨_, rfl⟩
  rw [hxs] at hl hsx HU
  simp only [hxs, hok] at HSC
  clear hok hxs
  go_enter Try.func13, Try.ntmps13
  go_wp2_with fail
  refine (HSC _).mono ?_
  rintro e w1 ⟨v, rfl, ho, hb1⟩
  obtain ⟨a, cap, rfl, hmx, hc⟩ := (Reads.of_own ho (by unfold maxLen; omega)).open
  clear ho HSC
  go_wp2_with fail
  go_loop [2, 14] (fun n i => ∃ k : Nat, i = .int .i64 k ∧ k ≤ xs.length ∧ n = .int .i64 ((unitsN (xs.take k) : Nat) : Int)) (fun _ i => xs.length - (intOf i).toNat)
  case atStart => exact ⟨0, rfl, by omega, rfl⟩
  case round =>
    obtain ⟨k, rfl, hk, rfl⟩ := hrel
    by_cases hlt : k < xs.length
    · obtain ⟨b0, off, rfl, hbB, hcx⟩ := hc k hlt
      have hun := unitsN_take xs k hlt
      have hx0 := hsx _ (List.getElem_mem hlt)
      have hub := (unitsN_lo (xs.take k)).2
      have hlen : (xs.take k).length ≤ xs.length := by rw [List.length_take]; omega
      obtain ⟨x, hx⟩ : ∃ x, xs[k] = x := ⟨_, rfl⟩
      rw [hx] at hcx hun hx0
      obtain ⟨n, hn⟩ : ∃ n, unitsN (xs.take k) = n := ⟨_, rfl⟩
      rw [hn] at hun hub ⊢
      have HUN := Lib.hid hun
      obtain ⟨hx1, hx2⟩ := hx0
      by_cases hbig : 65536 ≤ x
      · have hq : 1 ≤ x / 65536 := by omega
        rw [if_pos hbig] at HUN
        clear hc hx hn hun hsx hbig
        go_wp2_with fail
        exact ⟨⟨k + 1, by go_num, by omega, by rw [HUN.out]; refine v_int ?_; split <;> omega⟩, by simp [intOf]; omega⟩
      · have hq : x / 65536 = 0 := by omega
        rw [if_neg hbig] at HUN
        clear hc hx hn hun hsx hbig
        go_wp2_with fail
        exact ⟨⟨k + 1, by go_num, by omega, by rw [HUN.out]; refine v_int ?_; omega⟩, by simp [intOf]; omega⟩
    · obtain rfl : k = xs.length := by omega
      rw [List.take_of_length_le (Nat.le_refl _)]
      clear hc hsx
      go_wp2_with fail
      go_ret
      exact ⟨by rw [HU.out]; rfl, hb1⟩
end Go.Proofs.Ytppabccedmdajaa
