/-
  The walks of layer 4's statements: SingleCodes, SingleBack.
-/
import Derived.Test.YtnpglglhhjjehaaSgH
import Derived.Test.YtnpglglhhjjehaaU8N
namespace Go.Proofs.Ytnpglglhhjjehaa
open Go.RowKit
set_option maxHeartbeats 2000000 in
theorem law_SingleCodes (e : Int) (a b : ByteArray) (w : World) (ha : a.size ≤ 140737488351232) (hb : b.size ≤ 140737488351232) :
    Calls Try.prog 5 #[.int .i8 e, .string a, .string b] w fun r w' => r = .returned (.bool true) ∧ Below w.heap.size w w' := by
  by_cases h : a.size + b.size ≤ 2000
  · obtain ⟨d, hd⟩ : ∃ d, decS e a = d := ⟨_, rfl⟩
    obtain ⟨c, hc⟩ : ∃ c, decC e = c := ⟨_, rfl⟩
    obtain ⟨t, ht⟩ : ∃ t, encT e b = t := ⟨_, rfl⟩
    obtain ⟨p, hp⟩ : ∃ p, encAt e b = p := ⟨_, rfl⟩
    obtain ⟨k, hk⟩ : ∃ k, encK e b = k := ⟨_, rfl⟩
    have HD := Lib.hid hd
    have HC := Lib.hid hc
    have HT := Lib.hid ht
    have HP := Lib.hid hp
    have HK := Lib.hid hk
    clear hd hc ht hp hk
    have q1 : (d.toList == d.toList) = true := by simp
    have q2 : (c == c) = true := by simp
    have q3 : (t.toList == t.toList) = true := by simp
    have q4 : (p == p) = true := by simp
    have q5 : (k == k) = true := by simp
    go_enter Try.func5, Try.ntmps5
    go_wp2_with fail
    refine (single_Decode _ _ _ (by omega)).mono ?_
    rw [HD.out, HC.out]
    rintro e' w1 ⟨rfl, hb1⟩
    go_wp2_with fail
    refine (ref04_Decode _ _ _ (by omega)).mono ?_
    rw [HD.out, HC.out]
    rintro e' w2 ⟨rfl, hb2⟩
    have hb12 := hb1.trans (hb2.mono hb1.size)
    clear hb1 hb2
    go_wp2_with fail
    refine (single_Encode _ _ _ (by omega)).mono ?_
    rw [HT.out, HP.out, HK.out]
    rintro e' w3 ⟨rfl, hb3⟩
    have hb13 := hb12.trans (hb3.mono hb12.size)
    clear hb12 hb3
    go_wp2_with fail
    refine (ref04_Encode _ _ _ (by omega)).mono ?_
    rw [HT.out, HP.out, HK.out]
    rintro e' w4 ⟨rfl, hb4⟩
    have hb14 := hb13.trans (hb4.mono hb13.size)
    clear hb13 hb4
    go_wp2_with (go_at_call 13; refine (law04_wakes _).mono ?_; rintro e' w5 ⟨rfl, hb5⟩)
    go_ret
    exact ⟨rfl, hb14.trans (hb5.mono hb14.size)⟩
  · go_enter Try.func5, Try.ntmps5
    go_wp2_with (go_at_call 13; refine (law04_wakes _).mono ?_; rintro e' w5 ⟨rfl, hb5⟩)
    go_ret
    exact ⟨rfl, hb5⟩
def encNice (e : Int) : Bool := (List.range 256).all fun c => isSc (encOf e (c : Nat)) && (decide (c < 128) && encOf e (c : Nat) == (c : Nat) || decide (128 ≤ c) && decide (128 ≤ encOf e (c : Nat)))
theorem enc_nice {e : Int} (he : isEnc e = true) : encNice e = true := by
  have hc := of_decide_eq_true he
  rcases hc with rfl | rfl | rfl <;> decide +kernel
theorem enc_facts {e : Int} (he : isEnc e = true) (c : Nat) (h : c < 256) : isSc (encOf e c) = true ∧ (c < 128 → encOf e c = c) ∧ (128 ≤ c → 128 ≤ encOf e c) := by
  have h1 := List.all_eq_true.1 (enc_nice he) c (List.mem_range.2 h)
  simp only [Bool.and_eq_true, Bool.or_eq_true, decide_eq_true_eq, beq_iff_eq] at h1
  exact ⟨h1.1, fun h2 => by rcases h1.2 with h3 | h3 <;> omega, fun h2 => by rcases h1.2 with h3 | h3 <;> omega⟩
theorem nums_lt (s : ByteArray) : ∀ x ∈ nums s, ∃ c : Nat, x = c ∧ c < 256 := by
  intro x hx
  unfold nums at hx
  rw [List.mem_map] at hx
  obtain ⟨u, _, rfl⟩ := hx
  exact ⟨u.toNat, rfl, u.toBitVec.isLt⟩
theorem decL_sc {e : Int} (he : isEnc e = true) (s : ByteArray) : scAll (decL e s) = true := by
  unfold scAll decL
  rw [List.all_eq_true]
  intro y hy
  rw [List.mem_map] at hy
  obtain ⟨x, hx, rfl⟩ := hy
  obtain ⟨c, rfl, hc⟩ := nums_lt s x hx
  exact (enc_facts he c hc).1
theorem badAt_none (e : Int) : ∀ (a : Nat) (l : List (Int × Nat)), (∀ p ∈ l, badP e p = false) → badAt e a l = -1
  | _, [], _ => rfl
  | a, p :: r, h => by
    rw [badAt, if_neg (by rw [h p (List.mem_cons_self ..)]; decide)]
    exact badAt_none e _ r fun q hq => h q (List.mem_cons_of_mem _ hq)
/-- what a table tells comes back. -/
theorem back_law {e : Int} (he : isEnc e = true) (s : ByteArray) : ∃ t : ByteArray, decS e s = t ∧ decC e = 0 ∧ encT e t = s ∧ encAt e t = -1 ∧ encK e t = 0 ∧ scalL (nums t) = decL e s ∧ okAll (nums t) = true ∧ t.size ≤ 4 * s.size := by
  have hsc := decL_sc he s
  have hn : nums (strOfNums (encAll (decL e s))) = encAll (decL e s) := nums_strOfNums _ (isBs_encAll _)
  have hp : pieces (nums (strOfNums (encAll (decL e s)))) = (decL e s).map (fun r => (r, (encN r).length)) := by rw [hn]; exact pieces_encAll' _ hsc
  have hbd : badAt e 0 (pieces (nums (strOfNums (encAll (decL e s))))) = -1 := by
    refine badAt_none e _ _ ?_
    rw [hp]
    intro p hpm
    rw [List.mem_map] at hpm
    obtain ⟨y, hy, rfl⟩ := hpm
    have hy' := (isSc_iff y).1 (scAll_mem hsc hy)
    unfold decL at hy
    rw [List.mem_map] at hy
    obtain ⟨x, hx, rfl⟩ := hy
    obtain ⟨c, rfl, hc⟩ := nums_lt s x hx
    unfold badP
    simp only
    rw [decide_eq_false (by omega), byte_enc he c (by omega) (by omega)]
    rfl
  have hg := enc_good he (strOfNums (encAll (decL e s))) hbd
  have hout : outB e (pieces (nums (strOfNums (encAll (decL e s))))) = nums s := by
    rw [hp]
    unfold outB decL
    rw [List.map_map, List.map_map]
    conv => rhs; rw [← List.map_id (nums s)]
    refine List.map_congr_left fun x hx => ?_
    obtain ⟨c, rfl, hc⟩ := nums_lt s x hx
    show (byteOf e (encOf e c)).getD 0 = _
    rw [byte_enc he c (by omega) (by omega)]
    rfl
  rw [hout, strOfNums_nums] at hg
  refine ⟨strOfNums (encAll (decL e s)), ?_, ?_, hg.1, hg.2.1, hg.2.2, ?_, ?_, ?_⟩
  · unfold decS; rw [he]; exact textS_yes hsc
  · unfold decC; rw [he]; rfl
  · rw [hn]; exact scalL_encAll _ hsc
  · rw [hn]; exact okAll_encAll _ hsc
  · rw [strOfNums_size]
    have := encAll_len (decL e s)
    rw [decL_length] at this
    exact this
set_option maxRecDepth 100000 in
set_option maxHeartbeats 4000000 in
theorem law_SingleBack (s : ByteArray) (w : World) (hs : s.size ≤ 140737488351232) :
    Calls Try.prog 6 #[.string s] w fun r w' => r = .returned (.bool true) ∧ Below w.heap.size w w' := by
  by_cases h : s.size ≤ 2000
  · go_enter Try.func6, Try.ntmps6
    have hss : (s.toList == s.toList) = true := by simp
    have hnn : ((s.size : Int) != (s.size : Int)) = false := by simp
    go_wp2_with fail
    go_loopw [3] (fun i wr => ∃ k : Nat, i = .int .i8 k ∧ 3 ≤ k ∧ k ≤ 6 ∧ Below w.heap.size w wr) (fun i _ => 6 - (intOf i).toNat)
    case atStart => exact ⟨3, rfl, by omega, by omega, Below.refl _ _⟩
    case round =>
      obtain ⟨k, rfl, hk3, hk6, hb⟩ := hrel
      by_cases hlt : k < 6
      · have he : isEnc k = true := decide_eq_true (by omega)
        obtain ⟨t, l1, l2, l3, l4, l5, l6, l7, l8⟩ := back_law he s
        have L1 := Lib.hid l1
        have L2 := Lib.hid l2
        have L3 := Lib.hid l3
        have L4 := Lib.hid l4
        have L5 := Lib.hid l5
        have L6 := Lib.hid l6
        have L7 := Lib.hid l7
        have HE := Lib.hid he
        clear l1 l2 l3 l4 l5 l6 l7 he
        go_wp2_with fail
        refine (single_Decode _ _ _ (by omega)).mono ?_
        rw [L1.out, L2.out]
        rintro e' w1 ⟨rfl, hb1⟩
        have hb11 := hb.trans (hb1.mono hb.size)
        go_wp2_with fail
        refine (single_Encode _ _ _ (by omega)).mono ?_
        rw [L3.out, L4.out, L5.out]
        rintro e' w2 ⟨rfl, hb2⟩
        have hb12 := hb11.trans (hb2.mono hb11.size)
        go_wp2_with fail
        refine (ref02_Scalars _ _ (by omega)).mono ?_
        rw [L6.out, L7.out]
        rintro e' w3 ⟨v, rfl, ho, hb3⟩
        have hb13 := hb12.trans (hb3.mono hb12.size)
        obtain ⟨a, cap, rfl, hl, hc⟩ := (Reads.of_own ho (by rw [decL_length]; unfold maxLen; omega)).open
        have hdl := decL_length k s
        clear ho hb hb1 hb11 hb2 hb12 hb3
        simp only [hdl] at hl hc
        rw [hdl]
        go_wp2_with fail
        go_loopw [11] (fun i wr => ∃ j : Nat, i = .int .i64 j ∧ j ≤ s.size ∧ Below w3.heap.size w3 wr) (fun i _ => s.size - (intOf i).toNat)
        case atStart => exact ⟨0, rfl, by omega, Below.refl _ _⟩
        case round =>
          obtain ⟨j, rfl, hj, hbj⟩ := hrel
          by_cases hlj : j < s.size
          · obtain ⟨b, off, rfl, hbB, hcx⟩ := hc j hlj
            have hcx1 := (hbj.cell (p := ⟨b, off + j, none⟩) (by simpa using hbB)).trans hcx
            have hat := decL_at k s j hlj
            rw [List.getElem?_eq_getElem (by rw [hdl]; exact hlj)] at hat
            have hat1 := Option.some.inj hat
            rw [hat1] at hcx1
            have hc3 := byte_lt s j hlj
            obtain ⟨f1, f2, f3⟩ := enc_facts HE.out s[j].toNat hc3
            obtain ⟨c, hc'⟩ : ∃ c, s[j].toNat = c := ⟨_, rfl⟩
            have hidx := index_str s j hlj (c : Int) j (by rw [hc']) rfl
            rw [hc'] at hcx1 hc3 f2 f3
            obtain ⟨x, hx⟩ : ∃ x, encOf k (c : Int) = x := ⟨_, rfl⟩
            rw [hx] at hcx1 f2 f3
            clear hc hcx hat hat1 hc' hx f1
            by_cases hca : c < 128
            · obtain rfl := f2 hca
              have hne : ((c : Int) != (c : Int)) = false := by simp
              have hd2 : decide ((c : Int) < 128) = true := decide_eq_true (by omega)
              clear f3 f2
              go_wp2_with fail
              go_quiet (fail)
              go_wp2
              exact ⟨⟨j + 1, by go_num, by omega, below_dn hbj _⟩, by simp [intOf]; omega⟩
            · have hx2 := f3 (by omega)
              have hd1 : decide (x < 128) = false := decide_eq_false (by omega)
              have hd2 : decide ((c : Int) < 128) = false := decide_eq_false (by omega)
              clear f2 f3
              go_wp2_with fail
              go_quiet (fail)
              go_wp2
              exact ⟨⟨j + 1, by go_num, by omega, below_dn hbj _⟩, by simp [intOf]; omega⟩
          · obtain rfl : j = s.size := by omega
            have hbw := hb13.trans (hbj.mono hb13.size)
            clear hc
            go_wp2
            exact ⟨⟨k + 1, by go_num, by omega, by omega, hbw⟩, by simp [intOf]; omega⟩
      · obtain rfl : k = 6 := by omega
        go_wp2_with (go_at_call 13; refine (law04_wakes _).mono ?_; rintro e' w5 ⟨rfl, hb5⟩)
        go_ret
        exact ⟨rfl, hb.trans (hb5.mono hb.size)⟩
  · go_enter Try.func6, Try.ntmps6
    go_wp2_with (go_at_call 13; refine (law04_wakes _).mono ?_; rintro e' w5 ⟨rfl, hb5⟩)
    go_ret
    exact ⟨rfl, hb5⟩
end Go.Proofs.Ytnpglglhhjjehaa
