/-
  The walks of Decode, in single and in the reference.
-/
import Derived.Test.YtnpglglhhjjehaaSgL
import Derived.Test.YtnpglglhhjjehaaU8G
import Derived.Laws.OwnMore
import Derived.Deep.OwnRows
import Derived.Lib.SliceRun
namespace Go.Proofs.Ytnpglglhhjjehaa
open Go.RowKit
def decL (e : Int) (s : ByteArray) : List Int := (nums s).map (encOf e)
def decS (e : Int) (s : ByteArray) : ByteArray := if isEnc e then textS (decL e s) else ⟨#[]⟩
def decC (e : Int) : Int := if isEnc e then 0 else 2
theorem decL_length (e : Int) (s : ByteArray) : (decL e s).length = s.size := by unfold decL; rw [List.length_map, nums_length]
theorem decL_at (e : Int) (s : ByteArray) (k : Nat) (h : k < s.size) : (decL e s)[k]? = some (encOf e (s[k].toNat : Int)) := by
  have h1 := nums_drop s k h
  have h2 : (nums s)[k]? = some (s[k].toNat : Int) := by
    have := congrArg List.head? h1
    rw [List.head?_drop] at this
    exact this
  unfold decL
  rw [List.getElem?_map, h2]
  rfl
theorem decL_snoc (e : Int) (s : ByteArray) (k : Nat) (h : k < s.size) : (decL e s).take (k + 1) = (decL e s).take k ++ [encOf e (s[k].toNat : Int)] := by
  rw [List.take_add_one, decL_at e s k h]
  rfl
theorem byte_lt (s : ByteArray) (k : Nat) (h : k < s.size) : s[k].toNat < 256 := s[k].toBitVec.isLt
theorem tab_open {e : Int} (he : isEnc e = true) : ∃ T, tabL e = T ∧ T.length = 256 ∧ ∀ (k : Nat) (h : k < T.length), T[k] = encOf e k :=
  ⟨_, rfl, tabL_len he, fun k h => tab_at he k h⟩
/-- the row of s.size places, of which k are filled. -/
def fillD (e : Int) (s : ByteArray) (k : Nat) : List Int := (decL e s).take k ++ List.replicate (s.size - k) 0
theorem fillD_length (e : Int) (s : ByteArray) (k : Nat) (h : k ≤ s.size) : (fillD e s k).length = s.size := by
  unfold fillD
  rw [List.length_append, List.length_take, List.length_replicate, decL_length]
  omega
theorem fillD_zero (e : Int) (s : ByteArray) : fillD e s 0 = List.replicate s.size 0 := by unfold fillD; simp
theorem fillD_end (e : Int) (s : ByteArray) : fillD e s s.size = decL e s := by
  unfold fillD
  rw [Nat.sub_self, List.replicate_zero, List.append_nil, List.take_of_length_le (by rw [decL_length]; omega)]
theorem fillD_step (e : Int) (s : ByteArray) (k : Nat) (h : k < s.size) : fillD e s (k + 1) = (fillD e s k).set k (encOf e (s[k].toNat : Int)) := by
  unfold fillD
  rw [decL_snoc e s k h, List.set_append_right _ _ (by rw [List.length_take]; omega), List.length_take, decL_length, Nat.min_eq_left (by omega), Nat.sub_self]
  rw [show s.size - k = (s.size - (k + 1)) + 1 by omega, List.replicate_succ, List.set_cons_zero, List.append_assoc]
  rfl
set_option maxRecDepth 100000 in
set_option maxHeartbeats 2000000 in
theorem ref04_Decode (e : Int) (s : ByteArray) (w : World) (hs : s.size ≤ 1000000) :
    Calls Try.prog 15 #[.int .i8 e, .string s] w fun r w' => r = .returned (.tuple #[.string (decS e s), .int .i64 (decC e)]) ∧ Below w.heap.size w w' := by
  cases he : isEnc e with
  | false =>
    have HT := Lib.hid (tabL_no he)
    have HD := Lib.hid (show decS e s = ⟨#[]⟩ by unfold decS; rw [he]; rfl)
    have HC := Lib.hid (show decC e = 2 by unfold decC; rw [he]; rfl)
    go_enter Try.func15, Try.ntmps15
    go_wp2_with fail
    refine (ref04_Table _ _).mono ?_
    rw [HT.out]
    rintro e' w1 ⟨v, rfl, ho, hb⟩
    obtain ⟨a, cap, rfl, hl, hc⟩ := (Reads.of_own ho (by unfold maxLen; simp)).open
    clear ho hc
    go_wp2
    go_ret2
    exact ⟨by rw [HD.out, HC.out]; rfl, hb⟩
  | true =>
    obtain ⟨T, hT, hTl, hTa⟩ := tab_open he
    have HT := Lib.hid hT
    have HA := Lib.hid hTa
    clear hT hTa
    have HD := Lib.hid (show decS e s = textS (decL e s) by unfold decS; rw [he]; rfl)
    have HC := Lib.hid (show decC e = 0 by unfold decC; rw [he]; rfl)
    go_enter Try.func15, Try.ntmps15
    go_wp2_with fail
    refine (ref04_Table _ _).mono ?_
    rw [HT.out]
    rintro e' w1 ⟨v, rfl, ho, hb1⟩
    obtain ⟨a, cap, rfl, hl, hc⟩ := (Reads.of_own ho (by unfold maxLen; omega)).open
    have hT0 : ((T.length : Int) == 0) = false := by rw [hTl]; rfl
    clear ho
    go_wp2_with fail
    go_loopw [7, 8] (fun v i wr => ∃ k : Nat, i = .int .i64 k ∧ k ≤ s.size ∧ wr.ownsRow w1.heap.size 3 1 v k (((decL e s).take k).map (Value.int .i64)) ∧ Below w1.heap.size w1 wr) (fun _ i _ => s.size - (intOf i).toNat)
    case atStart => exact ⟨0, rfl, by omega, World.ownsRow_nil _ _ _ _, Below.refl _ _⟩
    case round =>
      obtain ⟨k, rfl, hk, hown, hb⟩ := hrel
      by_cases hlt : k < s.size
      · obtain ⟨b, off, rfl, hbB, hcx⟩ := hc s[k].toNat (by have := byte_lt s k hlt; omega)
        rw [HA.out] at hcx
        have hcx1 := (hb.cell (p := ⟨b, off + s[k].toNat, none⟩) (by simpa using hbB)).trans hcx
        have hd3 := byte_lt s k hlt
        have hsn := decL_snoc e s k hlt
        obtain ⟨c, hc'⟩ : ∃ c, s[k].toNat = c := ⟨_, rfl⟩
        have hidx := index_str s k hlt (c : Int) k (by rw [hc']) rfl
        rw [hc'] at hcx1 hd3 hsn
        obtain ⟨x, hx⟩ : ∃ x, encOf e (c : Int) = x := ⟨_, rfl⟩
        rw [hx] at hcx1 hsn
        obtain ⟨v', w3, hr, ho1, hb3, _⟩ := app_int wr w1.heap.size u7 k _ hown x (by omega) hb.size
        rw [← hsn] at ho1
        have HR := Lib.hid hr
        clear hr hsn hc hcx hc' hx hown
        go_wp2_with (at_builtin; refine wpList_append_run rfl _ _ _ _ rfl _ _ rfl rfl _ _ HR.out ?_)
        exact ⟨⟨k + 1, by go_num, by omega, ho1, hb.trans hb3⟩, by simp [intOf]; omega⟩
      · obtain rfl : k = s.size := by omega
        rw [List.take_of_length_le (by rw [decL_length]; omega)] at hown
        have hR := Reads.of_own (xs := (decL e s).map (Value.int .i64)) hown (by unfold maxLen; omega)
        clear hc
        go_wp2_with fail
        refine (ref02_Text _ _ _ _ hR (Nat.le_refl _) (by rw [decL_length]; omega)).mono ?_
        rintro e' w4 ⟨rfl, hb4⟩
        go_wp2
        go_ret2
        exact ⟨by rw [HD.out, HC.out]; rfl, hb1.trans ((hb.mono hb1.size).trans (hb4.mono (hb1.trans (hb.mono hb1.size)).size))⟩
theorem single_Table_no (e : Int) (he : isEnc e = false) (w : World) :
    Calls Try.prog 11 #[.int .i8 e] w fun r w' => r = .returned (.slice none 0 0) ∧ Below w.heap.size w w' := by
  have HE := Lib.hid he
  go_enter Try.func11, Try.ntmps11
  go_wp2_with (go_at_call 19; refine (single_codecs _).mono ?_; rintro e' w1 ⟨bm, b1, b2, b3, rfl, im, i1, i2, i3, hb1⟩; have hlk := look_no im e HE.out)
  go_ret
  exact ⟨rfl, hb1⟩
set_option maxRecDepth 100000 in
set_option maxHeartbeats 2000000 in
theorem single_Decode (e : Int) (s : ByteArray) (w : World) (hs : s.size ≤ 1000000) :
    Calls Try.prog 14 #[.int .i8 e, .string s] w fun r w' => r = .returned (.tuple #[.string (decS e s), .int .i64 (decC e)]) ∧ Below w.heap.size w w' := by
  cases he : isEnc e with
  | false =>
    have HE := Lib.hid he
    have HD := Lib.hid (show decS e s = ⟨#[]⟩ by unfold decS; rw [he]; rfl)
    have HC := Lib.hid (show decC e = 2 by unfold decC; rw [he]; rfl)
    have hnil := fun (w : World) a n c => Lib.run_eql_slice_nil (P := Try.prog) w 27 3 a n c 0 0 Try.underlying27
    go_enter Try.func14, Try.ntmps14
    go_wp2_with fail
    refine (single_Table_no _ HE.out _).mono ?_
    rintro e' w1 ⟨rfl, hb⟩
    go_wp2
    go_ret2
    exact ⟨by rw [HD.out, HC.out]; rfl, hb⟩
  | true =>
    obtain ⟨T, hT, hTl, hTa⟩ := tab_open he
    have HT := Lib.hid hT
    have HA := Lib.hid hTa
    clear hT hTa
    have HD := Lib.hid (show decS e s = textS (decL e s) by unfold decS; rw [he]; rfl)
    have HC := Lib.hid (show decC e = 0 by unfold decC; rw [he]; rfl)
    have hmk := run_make_row' (P := Try.prog) 27 3 (.int .i64 0) 8 Try.underlying27 infoInt rfl .i64 .i64 s.size (by omega) (by omega)
    have hnil := fun (w : World) a n c => Lib.run_eql_slice_nil (P := Try.prog) w 27 3 a n c 0 0 Try.underlying27
    go_enter Try.func14, Try.ntmps14
    go_wp2_with fail
    refine (single_Table _ _).mono ?_
    rw [HT.out]
    rintro e' w1 ⟨v, rfl, ho, hb1⟩
    obtain ⟨a, cap, rfl, hl, hc⟩ := (Reads.of_own ho (by unfold maxLen; omega)).open
    obtain ⟨b, off, rfl, hbB, _⟩ := hc 0 (by omega)
    clear ho
    have hmade := World.ownsRow_lit (base := w1.heap.size) (e := 3) (size := 1) w1 (madeCells #[.int .i64 0] s.size) s.size (Nat.le_refl _) (by unfold maxLen; omega) (by simp [madeCells])
    rw [toList_madeCells_one] at hmade
    have hbm := (Below.refl w1.heap.size w1).alloc (Nat.le_refl _) (.cells (madeCells #[.int .i64 0] s.size) 3)
    go_wp2_with fail
    go_loopw [20] (fun i wr => ∃ k : Nat, i = .int .i64 k ∧ k ≤ s.size ∧ wr.ownsRow w1.heap.size 3 1 (.slice (some ⟨w1.heap.size, 0, none⟩) s.size s.size) s.size ((fillD e s k).map (Value.int .i64)) ∧ Below w1.heap.size w1 wr) (fun i _ => s.size - (intOf i).toNat)
    case atStart => exact ⟨0, rfl, by omega, by rw [fillD_zero]; simpa using hmade, hbm⟩
    case round =>
      obtain ⟨k, rfl, hk, hown, hb⟩ := hrel
      by_cases hlt : k < s.size
      · obtain ⟨b', off', hbo, hbB, hcx⟩ := hc s[k].toNat (by have := byte_lt s k hlt; omega)
        simp only [Option.some.injEq, Addr.mk.injEq, and_true] at hbo
        obtain ⟨rfl, rfl⟩ := hbo
        rw [HA.out] at hcx
        have hcx1 := (hb.cell (p := ⟨b, off + s[k].toNat, none⟩) (by simpa using hbB)).trans hcx
        have hd3 := byte_lt s k hlt
        have hsn := fillD_step e s k hlt
        obtain ⟨c, hc'⟩ : ∃ c, s[k].toNat = c := ⟨_, rfl⟩
        have hidx := index_str s k hlt (c : Int) k (by rw [hc']) rfl
        rw [hc'] at hcx1 hd3 hsn
        obtain ⟨x, hx⟩ : ∃ x, encOf e (c : Int) = x := ⟨_, rfl⟩
        rw [hx] at hcx1 hsn
        have hst := hown.stored k (.int .i64 x)
        have hfz := hown.frozenAt k
        obtain ⟨u, hca⟩ : ∃ u, wr.cell? ⟨w1.heap.size, k, none⟩ = some u := by
          have hkl : k < ((fillD e s k).map (Value.int .i64)).length := by rw [List.length_map, fillD_length e s k hk]; exact hlt
          exact ⟨_, by rw [hown.cellAt k (by omega), List.getElem?_eq_getElem hkl]⟩
        rw [← List.map_set, ← hsn] at hst
        have HS := Lib.hid hst
        clear hst hsn hc hcx hc' hx hown
        go_wp2
        exact ⟨⟨k + 1, by go_num, by omega, HS.out.1, hb.grown HS.out.2 hb.size (fun j e => by cases e; exact Nat.le_refl _)⟩, by simp [intOf]; omega⟩
      · obtain rfl : k = s.size := by omega
        rw [fillD_end] at hown
        have hR := Reads.of_own (xs := (decL e s).map (Value.int .i64)) hown (by unfold maxLen; omega)
        clear hc
        go_wp2_with fail
        refine (utf8_Text _ _ _ _ hR (Nat.le_refl _) (by rw [decL_length]; omega)).mono ?_
        rintro e' w4 ⟨rfl, hb4⟩
        go_wp2
        go_ret2
        exact ⟨by rw [HD.out, HC.out]; rfl, hb1.trans ((hb.mono hb1.size).trans (hb4.mono (hb1.trans (hb.mono hb1.size)).size))⟩
end Go.Proofs.Ytnpglglhhjjehaa
