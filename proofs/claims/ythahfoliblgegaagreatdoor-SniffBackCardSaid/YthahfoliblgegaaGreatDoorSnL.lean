/-
  Layer 8: the law SniffBack.
-/
import Derived.Test.YthahfoliblgegaaGreatDoorSnK
namespace Go.Proofs.YthahfoliblgegaaGreatDoor
open Go.RowKit
theorem textS_size (xs : List Int) : (textS xs).size ≤ 4 * xs.length := by
  unfold textS
  split
  · rw [size_strOfNums]; exact encAll_len xs
  · rw [size_strOfNums]; exact Nat.zero_le _
theorem dec_size (e : Int) (b : ByteArray) : (decP e b).1.size ≤ 4 * b.size := by
  by_cases h0 : e = 0
  · subst h0
    show (strOfNums (looseN (nums b))).size ≤ _
    rw [size_strOfNums, ← nums_length]
    exact looseN_len _
  · by_cases h12 : e = 1 ∨ e = 2
    · rw [decP_16 e b h12]
      have h1 := textS_size (dW (decide (e = 2)) 0 (nums b)).1
      have h2 := (dec_len (decide (e = 2)) ((nums b).length + 1) 0 (nums b)).1
      have h3 : (dW (decide (e = 2)) 0 (nums b)).1.length ≤ (nums b).length := h2
      rw [nums_length] at h3
      simp only
      omega
    · cases he : isEnc e with
      | true =>
        rw [decP_one e b he]
        show (decS e b).size ≤ _
        unfold decS
        rw [if_pos he]
        have h1 := textS_size (decL e b)
        rw [decL_length] at h1
        exact h1
      | false =>
        unfold decP
        rw [if_neg h0, if_neg h12, he, if_neg (by decide)]
        split <;> exact Nat.zero_le _
theorem txt_size (kind body : ByteArray) : (txtP kind body).1.size ≤ 4 * body.size := by
  have h := dec_size (encP kind body).1 (body.extract (encP kind body).2.1 body.size)
  rw [ByteArray.size_extract] at h
  unfold txtP
  simp only
  omega
/-- a prefix, as it is tested. -/
theorem preB_cut (b p : ByteArray) (_h : p.size ≤ b.size) : preB b p = ((b.extract 0 p.size).toList == p.toList) := by
  unfold preB Lib.hasPrefix
  have h1 : (b.extract 0 p.size).toList = b.data.toList.take p.size := by
    rw [ByteArray.toList_eq, ByteArray.data_extract, Array.toList_extract, List.extract_eq_take_drop, List.drop_zero, Nat.sub_zero]
  rw [h1, ByteArray.toList_eq, Bool.eq_iff_iff, List.isPrefixOf_iff_prefix, List.prefix_iff_eq_take, beq_iff_eq]
  have h2 : p.data.toList.length = p.size := by rw [Array.length_toList]; rfl
  rw [h2]
  exact eq_comm
theorem preB_long (b p : ByteArray) (h : ¬ p.size ≤ b.size) : preB b p = false := by
  cases hp : preB b p with
  | false => rfl
  | true =>
    unfold preB Lib.hasPrefix at hp
    have := (List.isPrefixOf_iff_prefix.1 hp).length_le
    rw [Array.length_toList, Array.length_toList] at this
    exact absurd this h
/-- the three marks. -/
def mkA : Nat → ByteArray
  | 0 => (⟨#[239, 187, 191]⟩ : ByteArray)
  | 1 => (⟨#[255, 254]⟩ : ByteArray)
  | _ => (⟨#[254, 255]⟩ : ByteArray)
/-- what lasts behind the names and marks. -/
structure BaI (w : World) (m : Int) (bn bk : Nat) (wr : World) : Prop where
  l : LwI w m wr
  n : BlkAt wr bn #[.string (⟨#[117, 116, 102, 45, 56]⟩ : ByteArray), .string (⟨#[117, 116, 102, 45, 49, 54, 108, 101]⟩ : ByteArray), .string (⟨#[117, 116, 102, 45, 49, 54, 98, 101]⟩ : ByteArray), .string (⟨#[119, 105, 110, 100, 111, 119, 115, 45, 49, 50, 53, 50]⟩ : ByteArray), .string (⟨#[105, 115, 111, 45, 56, 56, 53, 57, 45, 53]⟩ : ByteArray), .string (⟨#[105, 115, 111, 45, 56, 56, 53, 57, 45, 49, 53]⟩ : ByteArray)]
  k : BlkAt wr bk #[.string (⟨#[239, 187, 191]⟩ : ByteArray), .string (⟨#[255, 254]⟩ : ByteArray), .string (⟨#[254, 255]⟩ : ByteArray)]
theorem BaI.below {w wr wx : World} {m : Int} {bn bk : Nat} (h : BaI w m bn bk wr) (hb : Below wr.heap.size wr wx) : BaI w m bn bk wx := ⟨h.l.below hb, h.n.below hb h.n.lt, h.k.below hb h.k.lt⟩
theorem BaI.drewN {w wr : World} {m : Int} {bn bk : Nat} (h : BaI w m bn bk wr) (n : Nat) : BaI w m bn bk (wr.drewN n) := h.below (below_dn (Below.refl _ wr) n)
set_option maxRecDepth 100000 in
set_option maxHeartbeats 16000000 in
theorem law_SniffBack (enc : Int) (text raw : ByteArray) (w : World) (m : Int) (hm : MaxAt w m) (ht : TabAt w) (hw : (Lit.int .i8 enc).wf = true) (h1 : text.size ≤ 140737488351232) (h2 : raw.size ≤ 140737488351232) :
    Calls Tryz.prog 6 #[.int .i8 enc, .string text, .string raw] w fun e w' => e = .returned (.bool true) ∧ Below w.heap.size w w' := by
  obtain ⟨h81, h82⟩ := wf_i8 hw
  clear hw
  have L0 := LwI.start hm ht
  have HW := Lib.hid (fun w h1 h2 => law08_wakes w m h1 h2)
  clear hm ht
  by_cases hk : 900 < text.size
  · have hd := decide_eq_true (show (900 : Int) < (text.size : Int) by omega)
    clear hk
    go_enter Tryz.func6, Tryz.ntmps6
    go_wp2_with fail
    refine (HW.out _ L0.mx L0.tb).mono ?_
    rintro e w9 ⟨rfl, hb9⟩
    go_wp2_with fail
    go_ret
    exact ⟨rfl, hb9⟩
  · have hd := decide_eq_false (show ¬ (900 : Int) < (text.size : Int) by omega)
    by_cases hz : 3000 < raw.size
    · have hd2 := decide_eq_true (show (3000 : Int) < (raw.size : Int) by omega)
      clear hk hz
      go_enter Tryz.func6, Tryz.ntmps6
      go_wp2_with fail
      refine (HW.out _ L0.mx L0.tb).mono ?_
      rintro e w9 ⟨rfl, hb9⟩
      go_wp2_with fail
      go_ret
      exact ⟨rfl, hb9⟩
    · have hd2 := decide_eq_false (show ¬ (3000 : Int) < (raw.size : Int) by omega)
      have hR := fun w h1 h2 => sniff_Text txB raw (by decide) w m h1 h2
      have hRR : txtR txB raw = (txtP txB raw, 0) := by unfold txtR; rw [if_neg (by omega)]
      rw [hRR] at hR
      have hV := fun w => ref02_Valid (txtP txB raw).1 w (by have := txt_size txB raw; omega)
      rw [txt_valid] at hV
      have hl := raw_len raw
      obtain ⟨P, hP⟩ : ∃ P, txtP txB raw = P := ⟨_, rfl⟩
      rw [hP] at hR hV hl
      obtain ⟨T, E, l⟩ := P
      simp only at hl hV
      unfold txB at hR
      obtain ⟨n, hn⟩ : ∃ n, l.length = n := ⟨_, rfl⟩
      have hR2 : ∀ w, MaxAt w m → TabAt w → Calls Tryz.prog 10 #[.string ⟨#[116, 101, 120, 116, 47, 120, 109, 108]⟩, .string raw] w fun e w' => ∃ a c, e = .returned (.tuple #[.string T, .int .i8 E, .slice a n c, .int .i64 0]) ∧ Below w.heap.size w w' := fun w h1 h2 => (hR w h1 h2).mono fun e w' ⟨v, g1, g2, g3⟩ => by
        obtain ⟨a, c, rfl, -⟩ := CReads.of_own g2
        rw [← hn]
        exact ⟨a, c, g1, g3⟩
      have d3 := decide_eq_false (show ¬ (2 : Int) < (n : Int) by omega)
      have d4 := decide_eq_false (show ¬ 2 < n by omega)
      have HR := Lib.hid hR2
      have HV := Lib.hid hV
      have htx : text.size ≤ 900 := by omega
      clear hR hR2 hV hl hP hRR hn hk hz
      go_enter Tryz.func6, Tryz.ntmps6
      go_wp2_with fail
      refine (HR.out _ L0.mx L0.tb).mono ?_
      rintro e w1 ⟨a1, c1, rfl, hb1⟩
      have L1 := L0.below hb1
      clear L0 hb1
      go_wp2_with fail
      refine (HV.out _).mono ?_
      rintro e w2 ⟨rfl, hb2⟩
      have L2 := L1.below hb2
      clear L1 hb2 HR HV
      have B0 : BaI w m w2.heap.size (w2.heap.size + 1) ((w2.alloc (.cells #[.string (⟨#[117, 116, 102, 45, 56]⟩ : ByteArray), .string (⟨#[117, 116, 102, 45, 49, 54, 108, 101]⟩ : ByteArray), .string (⟨#[117, 116, 102, 45, 49, 54, 98, 101]⟩ : ByteArray), .string (⟨#[119, 105, 110, 100, 111, 119, 115, 45, 49, 50, 53, 50]⟩ : ByteArray), .string (⟨#[105, 115, 111, 45, 56, 56, 53, 57, 45, 53]⟩ : ByteArray), .string (⟨#[105, 115, 111, 45, 56, 56, 53, 57, 45, 49, 53]⟩ : ByteArray)] 9)).alloc (.cells #[.string (⟨#[239, 187, 191]⟩ : ByteArray), .string (⟨#[255, 254]⟩ : ByteArray), .string (⟨#[254, 255]⟩ : ByteArray)] 9)) := by
        have g1 := (Below.refl w2.heap.size w2).alloc (Nat.le_refl _) (.cells #[.string (⟨#[117, 116, 102, 45, 56]⟩ : ByteArray), .string (⟨#[117, 116, 102, 45, 49, 54, 108, 101]⟩ : ByteArray), .string (⟨#[117, 116, 102, 45, 49, 54, 98, 101]⟩ : ByteArray), .string (⟨#[119, 105, 110, 100, 111, 119, 115, 45, 49, 50, 53, 50]⟩ : ByteArray), .string (⟨#[105, 115, 111, 45, 56, 56, 53, 57, 45, 53]⟩ : ByteArray), .string (⟨#[105, 115, 111, 45, 56, 56, 53, 57, 45, 49, 53]⟩ : ByteArray)] 9)
        have g2 := g1.alloc g1.size (.cells #[.string (⟨#[239, 187, 191]⟩ : ByteArray), .string (⟨#[255, 254]⟩ : ByteArray), .string (⟨#[254, 255]⟩ : ByteArray)] 9)
        have g3 := BlkAt.new (w2.alloc (.cells #[.string (⟨#[117, 116, 102, 45, 56]⟩ : ByteArray), .string (⟨#[117, 116, 102, 45, 49, 54, 108, 101]⟩ : ByteArray), .string (⟨#[117, 116, 102, 45, 49, 54, 98, 101]⟩ : ByteArray), .string (⟨#[119, 105, 110, 100, 111, 119, 115, 45, 49, 50, 53, 50]⟩ : ByteArray), .string (⟨#[105, 115, 111, 45, 56, 56, 53, 57, 45, 53]⟩ : ByteArray), .string (⟨#[105, 115, 111, 45, 56, 56, 53, 57, 45, 49, 53]⟩ : ByteArray)] 9)) #[.string (⟨#[239, 187, 191]⟩ : ByteArray), .string (⟨#[255, 254]⟩ : ByteArray), .string (⟨#[254, 255]⟩ : ByteArray)] 9
        rw [show (w2.alloc (.cells #[.string (⟨#[117, 116, 102, 45, 56]⟩ : ByteArray), .string (⟨#[117, 116, 102, 45, 49, 54, 108, 101]⟩ : ByteArray), .string (⟨#[117, 116, 102, 45, 49, 54, 98, 101]⟩ : ByteArray), .string (⟨#[119, 105, 110, 100, 111, 119, 115, 45, 49, 50, 53, 50]⟩ : ByteArray), .string (⟨#[105, 115, 111, 45, 56, 56, 53, 57, 45, 53]⟩ : ByteArray), .string (⟨#[105, 115, 111, 45, 56, 56, 53, 57, 45, 49, 53]⟩ : ByteArray)] 9)).heap.size = w2.heap.size + 1 by simp] at g3
        exact ⟨L2.below g2, (BlkAt.new w2 _ _).alloc _, g3⟩
      clear L2
      rcases Int.lt_or_le enc 0 with hneg | hpos
      · have d5 := decide_eq_true hneg
        go_wp2_with fail
        refine (HW.out _ B0.l.mx B0.l.tb).mono ?_
        rintro e w9 ⟨rfl, hb9⟩
        have L9 := B0.l.below hb9
        go_wp2_with fail
        go_ret
        exact ⟨rfl, L9.bl⟩
      · have d5 := decide_eq_false (show ¬ enc < 0 by omega)
        rcases Int.lt_or_le 5 enc with hbig | hsm
        · have d6 := decide_eq_true (show 6 ≤ enc by omega)
          go_wp2_with fail
          refine (HW.out _ B0.l.mx B0.l.tb).mono ?_
          rintro e w9 ⟨rfl, hb9⟩
          have L9 := B0.l.below hb9
          go_wp2_with fail
          go_ret
          exact ⟨rfl, L9.bl⟩
        · have HEN := Lib.hid (fun e w => sniff_Encode e text w (by omega))
          have HTX := Lib.hid (fun k b w h0 h1 h2 => sniff_Text k b h0 w m h1 h2)
          clear d5
          obtain rfl | rfl | rfl | rfl | rfl | rfl : enc = 0 ∨ enc = 1 ∨ enc = 2 ∨ enc = 3 ∨ enc = 4 ∨ enc = 5 := by omega
          · obtain ⟨Q, hQ⟩ : ∃ Q, encQ 0 text = Q := ⟨_, rfl⟩
            have hen := fun w => HEN.out 0 w
            have hen2 := fun h => back_named (⟨#[97, 112, 112, 108, 105, 99, 97, 116, 105, 111, 110, 47, 114, 115, 115, 43, 120, 109, 108, 59, 99, 104, 97, 114, 115, 101, 116, 61, 117, 116, 102, 45, 56]⟩ : ByteArray) (⟨#[117, 116, 102, 45, 56]⟩ : ByteArray) text 0 (by decide) (by decide) (by decide +kernel) (by decide +kernel) (by decide +kernel) htx h
            have hsz := fun h => (enc_there 0 (by decide) (by decide) text h).2
            have hen3 := fun h => back_marked (⟨#[239, 187, 191]⟩ : ByteArray) text 0 (by decide) (by decide) (by decide) (fun b => by rw [nums_app8]; rfl) htx h
            rw [hQ] at hen3
            rw [hQ] at hen hen2 hsz
            obtain ⟨S, ok⟩ := Q
            simp only at hen2 hsz hen3
            have HE := Lib.hid hen
            clear hQ hen HEN
            go_wp2_with fail
            refine (HE.out _).mono ?_
            rintro e w3 ⟨rfl, hb3⟩
            obtain ⟨bn, hbn⟩ : ∃ b, w2.heap.size = b := ⟨_, rfl⟩
            rw [hbn] at B0 ⊢
            replace B0 := B0.below hb3
            clear hb3 hbn HE
            cases ok with
            | false =>
              clear hen2 hsz hen3
              go_wp2_with fail
              refine (HW.out _ B0.l.mx B0.l.tb).mono ?_
              rintro e w9 ⟨rfl, hb9⟩
              have L9 := B0.l.below hb9
              go_wp2_with fail
              go_ret
              exact ⟨rfl, L9.bl⟩
            | true =>
              have hSz := hsz rfl
              have HN := Lib.hid (hen2 rfl)
              have HM := Lib.hid (hen3 rfl)
              clear hen2 hsz hen3
              go_wp2_with fail
              go_loopw [15] (fun i wr => ∃ k : Nat, i = .int .i64 k ∧ k ≤ 3 ∧ Hid (∀ j, j < k → preB S (mkA j) = false) ∧ BaI w m bn (bn + 1) wr) (fun i _ => 3 - (intOf i).toNat)
              case atStart => exact ⟨0, rfl, by omega, Lib.hid (fun j h => by omega), B0⟩
              case round =>
                clear B0
                obtain ⟨k, hi, hk, HK, B1⟩ := hrel
                by_cases hlt : k < 3
                · obtain rfl | rfl | rfl : k = 0 ∨ k = 1 ∨ k = 2 := by omega
                  · have hi2 : _ = Value.int .i64 0 := hi
                    subst hi2
                    clear hi
                    have hc : _ = some (Value.string (⟨#[239, 187, 191]⟩ : ByteArray)) := B1.k.cell 0 rfl
                    by_cases hl : 3 ≤ S.size
                    · have q1 := decide_eq_true (show (3 : Int) ≤ (S.size : Int) by omega)
                      have q2 := decide_eq_true (show 3 ≤ S.size from hl)
                      have hpc : preB S (mkA 0) = ((S.extract 0 3).toList == [239, 187, 191]) := by
                        rw [preB_cut S (mkA 0) hl, show (mkA 0).toList = [239, 187, 191] by decide +kernel]
                        rfl
                      cases hp : preB S (mkA 0) with
                      | true =>
                        rw [hp] at hpc
                        have q3 := hpc.symm
                        clear hpc hp HK
                        go_wp2_with fail
                        go_quiet (fail)
                        have B2 := B1.drewN
                        go_wp2_with fail
                        refine (HW.out _ (B2 _).l.mx (B2 _).l.tb).mono ?_
                        rintro e w9 ⟨rfl, hb9⟩
                        have L9 := (B2 _).l.below hb9
                        go_wp2_with fail
                        go_ret
                        exact ⟨rfl, L9.bl⟩
                      | false =>
                        rw [hp] at hpc
                        have q3 := hpc.symm
                        have HK2 : Hid (∀ j, j < 0 + 1 → preB S (mkA j) = false) := Lib.hid fun j hj => by
                          rcases Nat.lt_or_ge j 0 with h | h
                          · exact HK.out j h
                          · obtain rfl : j = 0 := by omega
                            exact hp
                        clear hpc hp HK
                        go_wp2_with fail
                        go_quiet (fail)
                        have B2 := B1.drewN
                        go_wp2_with fail
                        exact ⟨⟨0 + 1, by go_num, by omega, HK2, B2 _⟩, by simp [intOf]⟩
                    · have q1 := decide_eq_false (show ¬ (3 : Int) ≤ (S.size : Int) by omega)
                      have q2 := decide_eq_false (show ¬ 3 ≤ S.size from hl)
                      have HK2 : Hid (∀ j, j < 0 + 1 → preB S (mkA j) = false) := Lib.hid fun j hj => by
                        rcases Nat.lt_or_ge j 0 with h | h
                        · exact HK.out j h
                        · obtain rfl : j = 0 := by omega
                          exact preB_long S _ hl
                      clear hl HK
                      go_wp2_with fail
                      go_quiet (fail)
                      have B2 := B1.drewN
                      go_wp2_with fail
                      exact ⟨⟨0 + 1, by go_num, by omega, HK2, B2 _⟩, by simp [intOf]⟩
                  · have hi2 : _ = Value.int .i64 1 := hi
                    subst hi2
                    clear hi
                    have hc : _ = some (Value.string (⟨#[255, 254]⟩ : ByteArray)) := B1.k.cell 1 rfl
                    by_cases hl : 2 ≤ S.size
                    · have q1 := decide_eq_true (show (2 : Int) ≤ (S.size : Int) by omega)
                      have q2 := decide_eq_true (show 2 ≤ S.size from hl)
                      have hpc : preB S (mkA 1) = ((S.extract 0 2).toList == [255, 254]) := by
                        rw [preB_cut S (mkA 1) hl, show (mkA 1).toList = [255, 254] by decide +kernel]
                        rfl
                      cases hp : preB S (mkA 1) with
                      | true =>
                        rw [hp] at hpc
                        have q3 := hpc.symm
                        clear hpc hp HK
                        go_wp2_with fail
                        go_quiet (fail)
                        have B2 := B1.drewN
                        go_wp2_with fail
                        refine (HW.out _ (B2 _).l.mx (B2 _).l.tb).mono ?_
                        rintro e w9 ⟨rfl, hb9⟩
                        have L9 := (B2 _).l.below hb9
                        go_wp2_with fail
                        go_ret
                        exact ⟨rfl, L9.bl⟩
                      | false =>
                        rw [hp] at hpc
                        have q3 := hpc.symm
                        have HK2 : Hid (∀ j, j < 1 + 1 → preB S (mkA j) = false) := Lib.hid fun j hj => by
                          rcases Nat.lt_or_ge j 1 with h | h
                          · exact HK.out j h
                          · obtain rfl : j = 1 := by omega
                            exact hp
                        clear hpc hp HK
                        go_wp2_with fail
                        go_quiet (fail)
                        have B2 := B1.drewN
                        go_wp2_with fail
                        exact ⟨⟨1 + 1, by go_num, by omega, HK2, B2 _⟩, by simp [intOf]⟩
                    · have q1 := decide_eq_false (show ¬ (2 : Int) ≤ (S.size : Int) by omega)
                      have q2 := decide_eq_false (show ¬ 2 ≤ S.size from hl)
                      have HK2 : Hid (∀ j, j < 1 + 1 → preB S (mkA j) = false) := Lib.hid fun j hj => by
                        rcases Nat.lt_or_ge j 1 with h | h
                        · exact HK.out j h
                        · obtain rfl : j = 1 := by omega
                          exact preB_long S _ hl
                      clear hl HK
                      go_wp2_with fail
                      go_quiet (fail)
                      have B2 := B1.drewN
                      go_wp2_with fail
                      exact ⟨⟨1 + 1, by go_num, by omega, HK2, B2 _⟩, by simp [intOf]⟩
                  · have hi2 : _ = Value.int .i64 2 := hi
                    subst hi2
                    clear hi
                    have hc : _ = some (Value.string (⟨#[254, 255]⟩ : ByteArray)) := B1.k.cell 2 rfl
                    by_cases hl : 2 ≤ S.size
                    · have q1 := decide_eq_true (show (2 : Int) ≤ (S.size : Int) by omega)
                      have q2 := decide_eq_true (show 2 ≤ S.size from hl)
                      have hpc : preB S (mkA 2) = ((S.extract 0 2).toList == [254, 255]) := by
                        rw [preB_cut S (mkA 2) hl, show (mkA 2).toList = [254, 255] by decide +kernel]
                        rfl
                      cases hp : preB S (mkA 2) with
                      | true =>
                        rw [hp] at hpc
                        have q3 := hpc.symm
                        clear hpc hp HK
                        go_wp2_with fail
                        go_quiet (fail)
                        have B2 := B1.drewN
                        go_wp2_with fail
                        refine (HW.out _ (B2 _).l.mx (B2 _).l.tb).mono ?_
                        rintro e w9 ⟨rfl, hb9⟩
                        have L9 := (B2 _).l.below hb9
                        go_wp2_with fail
                        go_ret
                        exact ⟨rfl, L9.bl⟩
                      | false =>
                        rw [hp] at hpc
                        have q3 := hpc.symm
                        have HK2 : Hid (∀ j, j < 2 + 1 → preB S (mkA j) = false) := Lib.hid fun j hj => by
                          rcases Nat.lt_or_ge j 2 with h | h
                          · exact HK.out j h
                          · obtain rfl : j = 2 := by omega
                            exact hp
                        clear hpc hp HK
                        go_wp2_with fail
                        go_quiet (fail)
                        have B2 := B1.drewN
                        go_wp2_with fail
                        exact ⟨⟨2 + 1, by go_num, by omega, HK2, B2 _⟩, by simp [intOf]⟩
                    · have q1 := decide_eq_false (show ¬ (2 : Int) ≤ (S.size : Int) by omega)
                      have q2 := decide_eq_false (show ¬ 2 ≤ S.size from hl)
                      have HK2 : Hid (∀ j, j < 2 + 1 → preB S (mkA j) = false) := Lib.hid fun j hj => by
                        rcases Nat.lt_or_ge j 2 with h | h
                        · exact HK.out j h
                        · obtain rfl : j = 2 := by omega
                          exact preB_long S _ hl
                      clear hl HK
                      go_wp2_with fail
                      go_quiet (fail)
                      have B2 := B1.drewN
                      go_wp2_with fail
                      exact ⟨⟨2 + 1, by go_num, by omega, HK2, B2 _⟩, by simp [intOf]⟩
                · obtain rfl : k = 3 := by omega
                  subst hi
                  have hN := HN.out (HK.out 0 (by omega)) (HK.out 1 (by omega)) (HK.out 2 (by omega))
                  have hT := fun w h1 h2 => HTX.out (⟨#[97, 112, 112, 108, 105, 99, 97, 116, 105, 111, 110, 47, 114, 115, 115, 43, 120, 109, 108, 59, 99, 104, 97, 114, 115, 101, 116, 61, 117, 116, 102, 45, 56]⟩ : ByteArray) S w (by decide) h1 h2
                  rw [hN] at hT
                  have HT2 := Lib.hid hT
                  have hcn : _ = some (Value.string (⟨#[117, 116, 102, 45, 56]⟩ : ByteArray)) := B1.n.cell 0 rfl
                  skip
                  have e1 : (text.toList != text.toList) = false := by simp
                  have e2 : (text.toList == text.toList) = true := by simp
                  have hK : (⟨#[97, 112, 112, 108, 105, 99, 97, 116, 105, 111, 110, 47, 114, 115, 115, 43, 120, 109, 108, 59, 99, 104, 97, 114, 115, 101, 116, 61]⟩ : ByteArray) ++ (⟨#[117, 116, 102, 45, 56]⟩ : ByteArray) = (⟨#[97, 112, 112, 108, 105, 99, 97, 116, 105, 111, 110, 47, 114, 115, 115, 43, 120, 109, 108, 59, 99, 104, 97, 114, 115, 101, 116, 61, 117, 116, 102, 45, 56]⟩ : ByteArray) := by decide +kernel
                  clear hN hT HN HK
                  go_wp2_with fail
                  refine (HT2.out _ B1.l.mx B1.l.tb).mono ?_
                  rintro e w5 ⟨v5, rfl, ho5, hb5⟩
                  obtain ⟨a5, c5, rfl, -⟩ := CReads.of_own ho5
                  have B2 := B1.below hb5
                  clear ho5 hb5
                  have hT3 := fun w h1 h2 => HTX.out wlB ((⟨#[239, 187, 191]⟩ : ByteArray) ++ S) w (by decide) h1 h2
                  rw [HM.out] at hT3
                  unfold wlB at hT3
                  have HT3 := Lib.hid hT3
                  have hcm : _ = some (Value.string (⟨#[239, 187, 191]⟩ : ByteArray)) := B2.k.cell 0 rfl
                  have hs9 : ¬ 9223372036854775807 < 3 + S.size := by omega
                  clear hT3 HM hcn B1
                  go_wp2_with fail
                  refine (HT3.out _ B2.l.mx B2.l.tb).mono ?_
                  rintro e w6 ⟨v6, rfl, ho6, hb6⟩
                  obtain ⟨a6, c6, rfl, -⟩ := CReads.of_own ho6
                  have B3 := B2.below hb6
                  clear ho6 hb6
                  go_wp2_with fail
                  refine (HW.out _ B3.l.mx B3.l.tb).mono ?_
                  rintro e w9 ⟨rfl, hb9⟩
                  have L9 := B3.l.below hb9
                  go_wp2_with fail
                  go_ret
                  exact ⟨rfl, L9.bl⟩
          · obtain ⟨Q, hQ⟩ : ∃ Q, encQ 1 text = Q := ⟨_, rfl⟩
            have hen := fun w => HEN.out 1 w
            have hen2 := fun h => back_named (⟨#[97, 112, 112, 108, 105, 99, 97, 116, 105, 111, 110, 47, 114, 115, 115, 43, 120, 109, 108, 59, 99, 104, 97, 114, 115, 101, 116, 61, 117, 116, 102, 45, 49, 54, 108, 101]⟩ : ByteArray) (⟨#[117, 116, 102, 45, 49, 54, 108, 101]⟩ : ByteArray) text 1 (by decide) (by decide) (by decide +kernel) (by decide +kernel) (by decide +kernel) htx h
            have hsz := fun h => (enc_there 1 (by decide) (by decide) text h).2
            have hen3 := fun h => back_marked (⟨#[255, 254]⟩ : ByteArray) text 1 (by decide) (by decide) (by decide) (fun b => by rw [nums_app8]; rfl) htx h
            rw [hQ] at hen3
            rw [hQ] at hen hen2 hsz
            obtain ⟨S, ok⟩ := Q
            simp only at hen2 hsz hen3
            have HE := Lib.hid hen
            clear hQ hen HEN
            go_wp2_with fail
            refine (HE.out _).mono ?_
            rintro e w3 ⟨rfl, hb3⟩
            obtain ⟨bn, hbn⟩ : ∃ b, w2.heap.size = b := ⟨_, rfl⟩
            rw [hbn] at B0 ⊢
            replace B0 := B0.below hb3
            clear hb3 hbn HE
            cases ok with
            | false =>
              clear hen2 hsz hen3
              go_wp2_with fail
              refine (HW.out _ B0.l.mx B0.l.tb).mono ?_
              rintro e w9 ⟨rfl, hb9⟩
              have L9 := B0.l.below hb9
              go_wp2_with fail
              go_ret
              exact ⟨rfl, L9.bl⟩
            | true =>
              have hSz := hsz rfl
              have HN := Lib.hid (hen2 rfl)
              have HM := Lib.hid (hen3 rfl)
              clear hen2 hsz hen3
              go_wp2_with fail
              go_loopw [15] (fun i wr => ∃ k : Nat, i = .int .i64 k ∧ k ≤ 3 ∧ Hid (∀ j, j < k → preB S (mkA j) = false) ∧ BaI w m bn (bn + 1) wr) (fun i _ => 3 - (intOf i).toNat)
              case atStart => exact ⟨0, rfl, by omega, Lib.hid (fun j h => by omega), B0⟩
              case round =>
                clear B0
                obtain ⟨k, hi, hk, HK, B1⟩ := hrel
                by_cases hlt : k < 3
                · obtain rfl | rfl | rfl : k = 0 ∨ k = 1 ∨ k = 2 := by omega
                  · have hi2 : _ = Value.int .i64 0 := hi
                    subst hi2
                    clear hi
                    have hc : _ = some (Value.string (⟨#[239, 187, 191]⟩ : ByteArray)) := B1.k.cell 0 rfl
                    by_cases hl : 3 ≤ S.size
                    · have q1 := decide_eq_true (show (3 : Int) ≤ (S.size : Int) by omega)
                      have q2 := decide_eq_true (show 3 ≤ S.size from hl)
                      have hpc : preB S (mkA 0) = ((S.extract 0 3).toList == [239, 187, 191]) := by
                        rw [preB_cut S (mkA 0) hl, show (mkA 0).toList = [239, 187, 191] by decide +kernel]
                        rfl
                      cases hp : preB S (mkA 0) with
                      | true =>
                        rw [hp] at hpc
                        have q3 := hpc.symm
                        clear hpc hp HK
                        go_wp2_with fail
                        go_quiet (fail)
                        have B2 := B1.drewN
                        go_wp2_with fail
                        refine (HW.out _ (B2 _).l.mx (B2 _).l.tb).mono ?_
                        rintro e w9 ⟨rfl, hb9⟩
                        have L9 := (B2 _).l.below hb9
                        go_wp2_with fail
                        go_ret
                        exact ⟨rfl, L9.bl⟩
                      | false =>
                        rw [hp] at hpc
                        have q3 := hpc.symm
                        have HK2 : Hid (∀ j, j < 0 + 1 → preB S (mkA j) = false) := Lib.hid fun j hj => by
                          rcases Nat.lt_or_ge j 0 with h | h
                          · exact HK.out j h
                          · obtain rfl : j = 0 := by omega
                            exact hp
                        clear hpc hp HK
                        go_wp2_with fail
                        go_quiet (fail)
                        have B2 := B1.drewN
                        go_wp2_with fail
                        exact ⟨⟨0 + 1, by go_num, by omega, HK2, B2 _⟩, by simp [intOf]⟩
                    · have q1 := decide_eq_false (show ¬ (3 : Int) ≤ (S.size : Int) by omega)
                      have q2 := decide_eq_false (show ¬ 3 ≤ S.size from hl)
                      have HK2 : Hid (∀ j, j < 0 + 1 → preB S (mkA j) = false) := Lib.hid fun j hj => by
                        rcases Nat.lt_or_ge j 0 with h | h
                        · exact HK.out j h
                        · obtain rfl : j = 0 := by omega
                          exact preB_long S _ hl
                      clear hl HK
                      go_wp2_with fail
                      go_quiet (fail)
                      have B2 := B1.drewN
                      go_wp2_with fail
                      exact ⟨⟨0 + 1, by go_num, by omega, HK2, B2 _⟩, by simp [intOf]⟩
                  · have hi2 : _ = Value.int .i64 1 := hi
                    subst hi2
                    clear hi
                    have hc : _ = some (Value.string (⟨#[255, 254]⟩ : ByteArray)) := B1.k.cell 1 rfl
                    by_cases hl : 2 ≤ S.size
                    · have q1 := decide_eq_true (show (2 : Int) ≤ (S.size : Int) by omega)
                      have q2 := decide_eq_true (show 2 ≤ S.size from hl)
                      have hpc : preB S (mkA 1) = ((S.extract 0 2).toList == [255, 254]) := by
                        rw [preB_cut S (mkA 1) hl, show (mkA 1).toList = [255, 254] by decide +kernel]
                        rfl
                      cases hp : preB S (mkA 1) with
                      | true =>
                        rw [hp] at hpc
                        have q3 := hpc.symm
                        clear hpc hp HK
                        go_wp2_with fail
                        go_quiet (fail)
                        have B2 := B1.drewN
                        go_wp2_with fail
                        refine (HW.out _ (B2 _).l.mx (B2 _).l.tb).mono ?_
                        rintro e w9 ⟨rfl, hb9⟩
                        have L9 := (B2 _).l.below hb9
                        go_wp2_with fail
                        go_ret
                        exact ⟨rfl, L9.bl⟩
                      | false =>
                        rw [hp] at hpc
                        have q3 := hpc.symm
                        have HK2 : Hid (∀ j, j < 1 + 1 → preB S (mkA j) = false) := Lib.hid fun j hj => by
                          rcases Nat.lt_or_ge j 1 with h | h
                          · exact HK.out j h
                          · obtain rfl : j = 1 := by omega
                            exact hp
                        clear hpc hp HK
                        go_wp2_with fail
                        go_quiet (fail)
                        have B2 := B1.drewN
                        go_wp2_with fail
                        exact ⟨⟨1 + 1, by go_num, by omega, HK2, B2 _⟩, by simp [intOf]⟩
                    · have q1 := decide_eq_false (show ¬ (2 : Int) ≤ (S.size : Int) by omega)
                      have q2 := decide_eq_false (show ¬ 2 ≤ S.size from hl)
                      have HK2 : Hid (∀ j, j < 1 + 1 → preB S (mkA j) = false) := Lib.hid fun j hj => by
                        rcases Nat.lt_or_ge j 1 with h | h
                        · exact HK.out j h
                        · obtain rfl : j = 1 := by omega
                          exact preB_long S _ hl
                      clear hl HK
                      go_wp2_with fail
                      go_quiet (fail)
                      have B2 := B1.drewN
                      go_wp2_with fail
                      exact ⟨⟨1 + 1, by go_num, by omega, HK2, B2 _⟩, by simp [intOf]⟩
                  · have hi2 : _ = Value.int .i64 2 := hi
                    subst hi2
                    clear hi
                    have hc : _ = some (Value.string (⟨#[254, 255]⟩ : ByteArray)) := B1.k.cell 2 rfl
                    by_cases hl : 2 ≤ S.size
                    · have q1 := decide_eq_true (show (2 : Int) ≤ (S.size : Int) by omega)
                      have q2 := decide_eq_true (show 2 ≤ S.size from hl)
                      have hpc : preB S (mkA 2) = ((S.extract 0 2).toList == [254, 255]) := by
                        rw [preB_cut S (mkA 2) hl, show (mkA 2).toList = [254, 255] by decide +kernel]
                        rfl
                      cases hp : preB S (mkA 2) with
                      | true =>
                        rw [hp] at hpc
                        have q3 := hpc.symm
                        clear hpc hp HK
                        go_wp2_with fail
                        go_quiet (fail)
                        have B2 := B1.drewN
                        go_wp2_with fail
                        refine (HW.out _ (B2 _).l.mx (B2 _).l.tb).mono ?_
                        rintro e w9 ⟨rfl, hb9⟩
                        have L9 := (B2 _).l.below hb9
                        go_wp2_with fail
                        go_ret
                        exact ⟨rfl, L9.bl⟩
                      | false =>
                        rw [hp] at hpc
                        have q3 := hpc.symm
                        have HK2 : Hid (∀ j, j < 2 + 1 → preB S (mkA j) = false) := Lib.hid fun j hj => by
                          rcases Nat.lt_or_ge j 2 with h | h
                          · exact HK.out j h
                          · obtain rfl : j = 2 := by omega
                            exact hp
                        clear hpc hp HK
                        go_wp2_with fail
                        go_quiet (fail)
                        have B2 := B1.drewN
                        go_wp2_with fail
                        exact ⟨⟨2 + 1, by go_num, by omega, HK2, B2 _⟩, by simp [intOf]⟩
                    · have q1 := decide_eq_false (show ¬ (2 : Int) ≤ (S.size : Int) by omega)
                      have q2 := decide_eq_false (show ¬ 2 ≤ S.size from hl)
                      have HK2 : Hid (∀ j, j < 2 + 1 → preB S (mkA j) = false) := Lib.hid fun j hj => by
                        rcases Nat.lt_or_ge j 2 with h | h
                        · exact HK.out j h
                        · obtain rfl : j = 2 := by omega
                          exact preB_long S _ hl
                      clear hl HK
                      go_wp2_with fail
                      go_quiet (fail)
                      have B2 := B1.drewN
                      go_wp2_with fail
                      exact ⟨⟨2 + 1, by go_num, by omega, HK2, B2 _⟩, by simp [intOf]⟩
                · obtain rfl : k = 3 := by omega
                  subst hi
                  have hN := HN.out (HK.out 0 (by omega)) (HK.out 1 (by omega)) (HK.out 2 (by omega))
                  have hT := fun w h1 h2 => HTX.out (⟨#[97, 112, 112, 108, 105, 99, 97, 116, 105, 111, 110, 47, 114, 115, 115, 43, 120, 109, 108, 59, 99, 104, 97, 114, 115, 101, 116, 61, 117, 116, 102, 45, 49, 54, 108, 101]⟩ : ByteArray) S w (by decide) h1 h2
                  rw [hN] at hT
                  have HT2 := Lib.hid hT
                  have hcn : _ = some (Value.string (⟨#[117, 116, 102, 45, 49, 54, 108, 101]⟩ : ByteArray)) := B1.n.cell 1 rfl
                  skip
                  have e1 : (text.toList != text.toList) = false := by simp
                  have e2 : (text.toList == text.toList) = true := by simp
                  have hK : (⟨#[97, 112, 112, 108, 105, 99, 97, 116, 105, 111, 110, 47, 114, 115, 115, 43, 120, 109, 108, 59, 99, 104, 97, 114, 115, 101, 116, 61]⟩ : ByteArray) ++ (⟨#[117, 116, 102, 45, 49, 54, 108, 101]⟩ : ByteArray) = (⟨#[97, 112, 112, 108, 105, 99, 97, 116, 105, 111, 110, 47, 114, 115, 115, 43, 120, 109, 108, 59, 99, 104, 97, 114, 115, 101, 116, 61, 117, 116, 102, 45, 49, 54, 108, 101]⟩ : ByteArray) := by decide +kernel
                  clear hN hT HN HK
                  go_wp2_with fail
                  refine (HT2.out _ B1.l.mx B1.l.tb).mono ?_
                  rintro e w5 ⟨v5, rfl, ho5, hb5⟩
                  obtain ⟨a5, c5, rfl, -⟩ := CReads.of_own ho5
                  have B2 := B1.below hb5
                  clear ho5 hb5
                  have hT3 := fun w h1 h2 => HTX.out wlB ((⟨#[255, 254]⟩ : ByteArray) ++ S) w (by decide) h1 h2
                  rw [HM.out] at hT3
                  unfold wlB at hT3
                  have HT3 := Lib.hid hT3
                  have hcm : _ = some (Value.string (⟨#[255, 254]⟩ : ByteArray)) := B2.k.cell 1 rfl
                  have hs9 : ¬ 9223372036854775807 < 2 + S.size := by omega
                  clear hT3 HM hcn B1
                  go_wp2_with fail
                  refine (HT3.out _ B2.l.mx B2.l.tb).mono ?_
                  rintro e w6 ⟨v6, rfl, ho6, hb6⟩
                  obtain ⟨a6, c6, rfl, -⟩ := CReads.of_own ho6
                  have B3 := B2.below hb6
                  clear ho6 hb6
                  go_wp2_with fail
                  refine (HW.out _ B3.l.mx B3.l.tb).mono ?_
                  rintro e w9 ⟨rfl, hb9⟩
                  have L9 := B3.l.below hb9
                  go_wp2_with fail
                  go_ret
                  exact ⟨rfl, L9.bl⟩
          · obtain ⟨Q, hQ⟩ : ∃ Q, encQ 2 text = Q := ⟨_, rfl⟩
            have hen := fun w => HEN.out 2 w
            have hen2 := fun h => back_named (⟨#[97, 112, 112, 108, 105, 99, 97, 116, 105, 111, 110, 47, 114, 115, 115, 43, 120, 109, 108, 59, 99, 104, 97, 114, 115, 101, 116, 61, 117, 116, 102, 45, 49, 54, 98, 101]⟩ : ByteArray) (⟨#[117, 116, 102, 45, 49, 54, 98, 101]⟩ : ByteArray) text 2 (by decide) (by decide) (by decide +kernel) (by decide +kernel) (by decide +kernel) htx h
            have hsz := fun h => (enc_there 2 (by decide) (by decide) text h).2
            have hen3 := fun h => back_marked (⟨#[254, 255]⟩ : ByteArray) text 2 (by decide) (by decide) (by decide) (fun b => by rw [nums_app8]; rfl) htx h
            rw [hQ] at hen3
            rw [hQ] at hen hen2 hsz
            obtain ⟨S, ok⟩ := Q
            simp only at hen2 hsz hen3
            have HE := Lib.hid hen
            clear hQ hen HEN
            go_wp2_with fail
            refine (HE.out _).mono ?_
            rintro e w3 ⟨rfl, hb3⟩
            obtain ⟨bn, hbn⟩ : ∃ b, w2.heap.size = b := ⟨_, rfl⟩
            rw [hbn] at B0 ⊢
            replace B0 := B0.below hb3
            clear hb3 hbn HE
            cases ok with
            | false =>
              clear hen2 hsz hen3
              go_wp2_with fail
              refine (HW.out _ B0.l.mx B0.l.tb).mono ?_
              rintro e w9 ⟨rfl, hb9⟩
              have L9 := B0.l.below hb9
              go_wp2_with fail
              go_ret
              exact ⟨rfl, L9.bl⟩
            | true =>
              have hSz := hsz rfl
              have HN := Lib.hid (hen2 rfl)
              have HM := Lib.hid (hen3 rfl)
              clear hen2 hsz hen3
              go_wp2_with fail
              go_loopw [15] (fun i wr => ∃ k : Nat, i = .int .i64 k ∧ k ≤ 3 ∧ Hid (∀ j, j < k → preB S (mkA j) = false) ∧ BaI w m bn (bn + 1) wr) (fun i _ => 3 - (intOf i).toNat)
              case atStart => exact ⟨0, rfl, by omega, Lib.hid (fun j h => by omega), B0⟩
              case round =>
                clear B0
                obtain ⟨k, hi, hk, HK, B1⟩ := hrel
                by_cases hlt : k < 3
                · obtain rfl | rfl | rfl : k = 0 ∨ k = 1 ∨ k = 2 := by omega
                  · have hi2 : _ = Value.int .i64 0 := hi
                    subst hi2
                    clear hi
                    have hc : _ = some (Value.string (⟨#[239, 187, 191]⟩ : ByteArray)) := B1.k.cell 0 rfl
                    by_cases hl : 3 ≤ S.size
                    · have q1 := decide_eq_true (show (3 : Int) ≤ (S.size : Int) by omega)
                      have q2 := decide_eq_true (show 3 ≤ S.size from hl)
                      have hpc : preB S (mkA 0) = ((S.extract 0 3).toList == [239, 187, 191]) := by
                        rw [preB_cut S (mkA 0) hl, show (mkA 0).toList = [239, 187, 191] by decide +kernel]
                        rfl
                      cases hp : preB S (mkA 0) with
                      | true =>
                        rw [hp] at hpc
                        have q3 := hpc.symm
                        clear hpc hp HK
                        go_wp2_with fail
                        go_quiet (fail)
                        have B2 := B1.drewN
                        go_wp2_with fail
                        refine (HW.out _ (B2 _).l.mx (B2 _).l.tb).mono ?_
                        rintro e w9 ⟨rfl, hb9⟩
                        have L9 := (B2 _).l.below hb9
                        go_wp2_with fail
                        go_ret
                        exact ⟨rfl, L9.bl⟩
                      | false =>
                        rw [hp] at hpc
                        have q3 := hpc.symm
                        have HK2 : Hid (∀ j, j < 0 + 1 → preB S (mkA j) = false) := Lib.hid fun j hj => by
                          rcases Nat.lt_or_ge j 0 with h | h
                          · exact HK.out j h
                          · obtain rfl : j = 0 := by omega
                            exact hp
                        clear hpc hp HK
                        go_wp2_with fail
                        go_quiet (fail)
                        have B2 := B1.drewN
                        go_wp2_with fail
                        exact ⟨⟨0 + 1, by go_num, by omega, HK2, B2 _⟩, by simp [intOf]⟩
                    · have q1 := decide_eq_false (show ¬ (3 : Int) ≤ (S.size : Int) by omega)
                      have q2 := decide_eq_false (show ¬ 3 ≤ S.size from hl)
                      have HK2 : Hid (∀ j, j < 0 + 1 → preB S (mkA j) = false) := Lib.hid fun j hj => by
                        rcases Nat.lt_or_ge j 0 with h | h
                        · exact HK.out j h
                        · obtain rfl : j = 0 := by omega
                          exact preB_long S _ hl
                      clear hl HK
                      go_wp2_with fail
                      go_quiet (fail)
                      have B2 := B1.drewN
                      go_wp2_with fail
                      exact ⟨⟨0 + 1, by go_num, by omega, HK2, B2 _⟩, by simp [intOf]⟩
                  · have hi2 : _ = Value.int .i64 1 := hi
                    subst hi2
                    clear hi
                    have hc : _ = some (Value.string (⟨#[255, 254]⟩ : ByteArray)) := B1.k.cell 1 rfl
                    by_cases hl : 2 ≤ S.size
                    · have q1 := decide_eq_true (show (2 : Int) ≤ (S.size : Int) by omega)
                      have q2 := decide_eq_true (show 2 ≤ S.size from hl)
                      have hpc : preB S (mkA 1) = ((S.extract 0 2).toList == [255, 254]) := by
                        rw [preB_cut S (mkA 1) hl, show (mkA 1).toList = [255, 254] by decide +kernel]
                        rfl
                      cases hp : preB S (mkA 1) with
                      | true =>
                        rw [hp] at hpc
                        have q3 := hpc.symm
                        clear hpc hp HK
                        go_wp2_with fail
                        go_quiet (fail)
                        have B2 := B1.drewN
                        go_wp2_with fail
                        refine (HW.out _ (B2 _).l.mx (B2 _).l.tb).mono ?_
                        rintro e w9 ⟨rfl, hb9⟩
                        have L9 := (B2 _).l.below hb9
                        go_wp2_with fail
                        go_ret
                        exact ⟨rfl, L9.bl⟩
                      | false =>
                        rw [hp] at hpc
                        have q3 := hpc.symm
                        have HK2 : Hid (∀ j, j < 1 + 1 → preB S (mkA j) = false) := Lib.hid fun j hj => by
                          rcases Nat.lt_or_ge j 1 with h | h
                          · exact HK.out j h
                          · obtain rfl : j = 1 := by omega
                            exact hp
                        clear hpc hp HK
                        go_wp2_with fail
                        go_quiet (fail)
                        have B2 := B1.drewN
                        go_wp2_with fail
                        exact ⟨⟨1 + 1, by go_num, by omega, HK2, B2 _⟩, by simp [intOf]⟩
                    · have q1 := decide_eq_false (show ¬ (2 : Int) ≤ (S.size : Int) by omega)
                      have q2 := decide_eq_false (show ¬ 2 ≤ S.size from hl)
                      have HK2 : Hid (∀ j, j < 1 + 1 → preB S (mkA j) = false) := Lib.hid fun j hj => by
                        rcases Nat.lt_or_ge j 1 with h | h
                        · exact HK.out j h
                        · obtain rfl : j = 1 := by omega
                          exact preB_long S _ hl
                      clear hl HK
                      go_wp2_with fail
                      go_quiet (fail)
                      have B2 := B1.drewN
                      go_wp2_with fail
                      exact ⟨⟨1 + 1, by go_num, by omega, HK2, B2 _⟩, by simp [intOf]⟩
                  · have hi2 : _ = Value.int .i64 2 := hi
                    subst hi2
                    clear hi
                    have hc : _ = some (Value.string (⟨#[254, 255]⟩ : ByteArray)) := B1.k.cell 2 rfl
                    by_cases hl : 2 ≤ S.size
                    · have q1 := decide_eq_true (show (2 : Int) ≤ (S.size : Int) by omega)
                      have q2 := decide_eq_true (show 2 ≤ S.size from hl)
                      have hpc : preB S (mkA 2) = ((S.extract 0 2).toList == [254, 255]) := by
                        rw [preB_cut S (mkA 2) hl, show (mkA 2).toList = [254, 255] by decide +kernel]
                        rfl
                      cases hp : preB S (mkA 2) with
                      | true =>
                        rw [hp] at hpc
                        have q3 := hpc.symm
                        clear hpc hp HK
                        go_wp2_with fail
                        go_quiet (fail)
                        have B2 := B1.drewN
                        go_wp2_with fail
                        refine (HW.out _ (B2 _).l.mx (B2 _).l.tb).mono ?_
                        rintro e w9 ⟨rfl, hb9⟩
                        have L9 := (B2 _).l.below hb9
                        go_wp2_with fail
                        go_ret
                        exact ⟨rfl, L9.bl⟩
                      | false =>
                        rw [hp] at hpc
                        have q3 := hpc.symm
                        have HK2 : Hid (∀ j, j < 2 + 1 → preB S (mkA j) = false) := Lib.hid fun j hj => by
                          rcases Nat.lt_or_ge j 2 with h | h
                          · exact HK.out j h
                          · obtain rfl : j = 2 := by omega
                            exact hp
                        clear hpc hp HK
                        go_wp2_with fail
                        go_quiet (fail)
                        have B2 := B1.drewN
                        go_wp2_with fail
                        exact ⟨⟨2 + 1, by go_num, by omega, HK2, B2 _⟩, by simp [intOf]⟩
                    · have q1 := decide_eq_false (show ¬ (2 : Int) ≤ (S.size : Int) by omega)
                      have q2 := decide_eq_false (show ¬ 2 ≤ S.size from hl)
                      have HK2 : Hid (∀ j, j < 2 + 1 → preB S (mkA j) = false) := Lib.hid fun j hj => by
                        rcases Nat.lt_or_ge j 2 with h | h
                        · exact HK.out j h
                        · obtain rfl : j = 2 := by omega
                          exact preB_long S _ hl
                      clear hl HK
                      go_wp2_with fail
                      go_quiet (fail)
                      have B2 := B1.drewN
                      go_wp2_with fail
                      exact ⟨⟨2 + 1, by go_num, by omega, HK2, B2 _⟩, by simp [intOf]⟩
                · obtain rfl : k = 3 := by omega
                  subst hi
                  have hN := HN.out (HK.out 0 (by omega)) (HK.out 1 (by omega)) (HK.out 2 (by omega))
                  have hT := fun w h1 h2 => HTX.out (⟨#[97, 112, 112, 108, 105, 99, 97, 116, 105, 111, 110, 47, 114, 115, 115, 43, 120, 109, 108, 59, 99, 104, 97, 114, 115, 101, 116, 61, 117, 116, 102, 45, 49, 54, 98, 101]⟩ : ByteArray) S w (by decide) h1 h2
                  rw [hN] at hT
                  have HT2 := Lib.hid hT
                  have hcn : _ = some (Value.string (⟨#[117, 116, 102, 45, 49, 54, 98, 101]⟩ : ByteArray)) := B1.n.cell 2 rfl
                  skip
                  have e1 : (text.toList != text.toList) = false := by simp
                  have e2 : (text.toList == text.toList) = true := by simp
                  have hK : (⟨#[97, 112, 112, 108, 105, 99, 97, 116, 105, 111, 110, 47, 114, 115, 115, 43, 120, 109, 108, 59, 99, 104, 97, 114, 115, 101, 116, 61]⟩ : ByteArray) ++ (⟨#[117, 116, 102, 45, 49, 54, 98, 101]⟩ : ByteArray) = (⟨#[97, 112, 112, 108, 105, 99, 97, 116, 105, 111, 110, 47, 114, 115, 115, 43, 120, 109, 108, 59, 99, 104, 97, 114, 115, 101, 116, 61, 117, 116, 102, 45, 49, 54, 98, 101]⟩ : ByteArray) := by decide +kernel
                  clear hN hT HN HK
                  go_wp2_with fail
                  refine (HT2.out _ B1.l.mx B1.l.tb).mono ?_
                  rintro e w5 ⟨v5, rfl, ho5, hb5⟩
                  obtain ⟨a5, c5, rfl, -⟩ := CReads.of_own ho5
                  have B2 := B1.below hb5
                  clear ho5 hb5
                  have hT3 := fun w h1 h2 => HTX.out wlB ((⟨#[254, 255]⟩ : ByteArray) ++ S) w (by decide) h1 h2
                  rw [HM.out] at hT3
                  unfold wlB at hT3
                  have HT3 := Lib.hid hT3
                  have hcm : _ = some (Value.string (⟨#[254, 255]⟩ : ByteArray)) := B2.k.cell 2 rfl
                  have hs9 : ¬ 9223372036854775807 < 2 + S.size := by omega
                  clear hT3 HM hcn B1
                  go_wp2_with fail
                  refine (HT3.out _ B2.l.mx B2.l.tb).mono ?_
                  rintro e w6 ⟨v6, rfl, ho6, hb6⟩
                  obtain ⟨a6, c6, rfl, -⟩ := CReads.of_own ho6
                  have B3 := B2.below hb6
                  clear ho6 hb6
                  go_wp2_with fail
                  refine (HW.out _ B3.l.mx B3.l.tb).mono ?_
                  rintro e w9 ⟨rfl, hb9⟩
                  have L9 := B3.l.below hb9
                  go_wp2_with fail
                  go_ret
                  exact ⟨rfl, L9.bl⟩
          · obtain ⟨Q, hQ⟩ : ∃ Q, encQ 3 text = Q := ⟨_, rfl⟩
            have hen := fun w => HEN.out 3 w
            have hen2 := fun h => back_named (⟨#[97, 112, 112, 108, 105, 99, 97, 116, 105, 111, 110, 47, 114, 115, 115, 43, 120, 109, 108, 59, 99, 104, 97, 114, 115, 101, 116, 61, 119, 105, 110, 100, 111, 119, 115, 45, 49, 50, 53, 50]⟩ : ByteArray) (⟨#[119, 105, 110, 100, 111, 119, 115, 45, 49, 50, 53, 50]⟩ : ByteArray) text 3 (by decide) (by decide) (by decide +kernel) (by decide +kernel) (by decide +kernel) htx h
            have hsz := fun h => (enc_there 3 (by decide) (by decide) text h).2
            rw [hQ] at hen hen2 hsz
            obtain ⟨S, ok⟩ := Q
            simp only at hen2 hsz
            have HE := Lib.hid hen
            clear hQ hen HEN
            go_wp2_with fail
            refine (HE.out _).mono ?_
            rintro e w3 ⟨rfl, hb3⟩
            obtain ⟨bn, hbn⟩ : ∃ b, w2.heap.size = b := ⟨_, rfl⟩
            rw [hbn] at B0 ⊢
            replace B0 := B0.below hb3
            clear hb3 hbn HE
            cases ok with
            | false =>
              clear hen2 hsz
              go_wp2_with fail
              refine (HW.out _ B0.l.mx B0.l.tb).mono ?_
              rintro e w9 ⟨rfl, hb9⟩
              have L9 := B0.l.below hb9
              go_wp2_with fail
              go_ret
              exact ⟨rfl, L9.bl⟩
            | true =>
              have hSz := hsz rfl
              have HN := Lib.hid (hen2 rfl)
              skip
              clear hen2 hsz
              go_wp2_with fail
              go_loopw [15] (fun i wr => ∃ k : Nat, i = .int .i64 k ∧ k ≤ 3 ∧ Hid (∀ j, j < k → preB S (mkA j) = false) ∧ BaI w m bn (bn + 1) wr) (fun i _ => 3 - (intOf i).toNat)
              case atStart => exact ⟨0, rfl, by omega, Lib.hid (fun j h => by omega), B0⟩
              case round =>
                clear B0
                obtain ⟨k, hi, hk, HK, B1⟩ := hrel
                by_cases hlt : k < 3
                · obtain rfl | rfl | rfl : k = 0 ∨ k = 1 ∨ k = 2 := by omega
                  · have hi2 : _ = Value.int .i64 0 := hi
                    subst hi2
                    clear hi
                    have hc : _ = some (Value.string (⟨#[239, 187, 191]⟩ : ByteArray)) := B1.k.cell 0 rfl
                    by_cases hl : 3 ≤ S.size
                    · have q1 := decide_eq_true (show (3 : Int) ≤ (S.size : Int) by omega)
                      have q2 := decide_eq_true (show 3 ≤ S.size from hl)
                      have hpc : preB S (mkA 0) = ((S.extract 0 3).toList == [239, 187, 191]) := by
                        rw [preB_cut S (mkA 0) hl, show (mkA 0).toList = [239, 187, 191] by decide +kernel]
                        rfl
                      cases hp : preB S (mkA 0) with
                      | true =>
                        rw [hp] at hpc
                        have q3 := hpc.symm
                        clear hpc hp HK
                        go_wp2_with fail
                        go_quiet (fail)
                        have B2 := B1.drewN
                        go_wp2_with fail
                        refine (HW.out _ (B2 _).l.mx (B2 _).l.tb).mono ?_
                        rintro e w9 ⟨rfl, hb9⟩
                        have L9 := (B2 _).l.below hb9
                        go_wp2_with fail
                        go_ret
                        exact ⟨rfl, L9.bl⟩
                      | false =>
                        rw [hp] at hpc
                        have q3 := hpc.symm
                        have HK2 : Hid (∀ j, j < 0 + 1 → preB S (mkA j) = false) := Lib.hid fun j hj => by
                          rcases Nat.lt_or_ge j 0 with h | h
                          · exact HK.out j h
                          · obtain rfl : j = 0 := by omega
                            exact hp
                        clear hpc hp HK
                        go_wp2_with fail
                        go_quiet (fail)
                        have B2 := B1.drewN
                        go_wp2_with fail
                        exact ⟨⟨0 + 1, by go_num, by omega, HK2, B2 _⟩, by simp [intOf]⟩
                    · have q1 := decide_eq_false (show ¬ (3 : Int) ≤ (S.size : Int) by omega)
                      have q2 := decide_eq_false (show ¬ 3 ≤ S.size from hl)
                      have HK2 : Hid (∀ j, j < 0 + 1 → preB S (mkA j) = false) := Lib.hid fun j hj => by
                        rcases Nat.lt_or_ge j 0 with h | h
                        · exact HK.out j h
                        · obtain rfl : j = 0 := by omega
                          exact preB_long S _ hl
                      clear hl HK
                      go_wp2_with fail
                      go_quiet (fail)
                      have B2 := B1.drewN
                      go_wp2_with fail
                      exact ⟨⟨0 + 1, by go_num, by omega, HK2, B2 _⟩, by simp [intOf]⟩
                  · have hi2 : _ = Value.int .i64 1 := hi
                    subst hi2
                    clear hi
                    have hc : _ = some (Value.string (⟨#[255, 254]⟩ : ByteArray)) := B1.k.cell 1 rfl
                    by_cases hl : 2 ≤ S.size
                    · have q1 := decide_eq_true (show (2 : Int) ≤ (S.size : Int) by omega)
                      have q2 := decide_eq_true (show 2 ≤ S.size from hl)
                      have hpc : preB S (mkA 1) = ((S.extract 0 2).toList == [255, 254]) := by
                        rw [preB_cut S (mkA 1) hl, show (mkA 1).toList = [255, 254] by decide +kernel]
                        rfl
                      cases hp : preB S (mkA 1) with
                      | true =>
                        rw [hp] at hpc
                        have q3 := hpc.symm
                        clear hpc hp HK
                        go_wp2_with fail
                        go_quiet (fail)
                        have B2 := B1.drewN
                        go_wp2_with fail
                        refine (HW.out _ (B2 _).l.mx (B2 _).l.tb).mono ?_
                        rintro e w9 ⟨rfl, hb9⟩
                        have L9 := (B2 _).l.below hb9
                        go_wp2_with fail
                        go_ret
                        exact ⟨rfl, L9.bl⟩
                      | false =>
                        rw [hp] at hpc
                        have q3 := hpc.symm
                        have HK2 : Hid (∀ j, j < 1 + 1 → preB S (mkA j) = false) := Lib.hid fun j hj => by
                          rcases Nat.lt_or_ge j 1 with h | h
                          · exact HK.out j h
                          · obtain rfl : j = 1 := by omega
                            exact hp
                        clear hpc hp HK
                        go_wp2_with fail
                        go_quiet (fail)
                        have B2 := B1.drewN
                        go_wp2_with fail
                        exact ⟨⟨1 + 1, by go_num, by omega, HK2, B2 _⟩, by simp [intOf]⟩
                    · have q1 := decide_eq_false (show ¬ (2 : Int) ≤ (S.size : Int) by omega)
                      have q2 := decide_eq_false (show ¬ 2 ≤ S.size from hl)
                      have HK2 : Hid (∀ j, j < 1 + 1 → preB S (mkA j) = false) := Lib.hid fun j hj => by
                        rcases Nat.lt_or_ge j 1 with h | h
                        · exact HK.out j h
                        · obtain rfl : j = 1 := by omega
                          exact preB_long S _ hl
                      clear hl HK
                      go_wp2_with fail
                      go_quiet (fail)
                      have B2 := B1.drewN
                      go_wp2_with fail
                      exact ⟨⟨1 + 1, by go_num, by omega, HK2, B2 _⟩, by simp [intOf]⟩
                  · have hi2 : _ = Value.int .i64 2 := hi
                    subst hi2
                    clear hi
                    have hc : _ = some (Value.string (⟨#[254, 255]⟩ : ByteArray)) := B1.k.cell 2 rfl
                    by_cases hl : 2 ≤ S.size
                    · have q1 := decide_eq_true (show (2 : Int) ≤ (S.size : Int) by omega)
                      have q2 := decide_eq_true (show 2 ≤ S.size from hl)
                      have hpc : preB S (mkA 2) = ((S.extract 0 2).toList == [254, 255]) := by
                        rw [preB_cut S (mkA 2) hl, show (mkA 2).toList = [254, 255] by decide +kernel]
                        rfl
                      cases hp : preB S (mkA 2) with
                      | true =>
                        rw [hp] at hpc
                        have q3 := hpc.symm
                        clear hpc hp HK
                        go_wp2_with fail
                        go_quiet (fail)
                        have B2 := B1.drewN
                        go_wp2_with fail
                        refine (HW.out _ (B2 _).l.mx (B2 _).l.tb).mono ?_
                        rintro e w9 ⟨rfl, hb9⟩
                        have L9 := (B2 _).l.below hb9
                        go_wp2_with fail
                        go_ret
                        exact ⟨rfl, L9.bl⟩
                      | false =>
                        rw [hp] at hpc
                        have q3 := hpc.symm
                        have HK2 : Hid (∀ j, j < 2 + 1 → preB S (mkA j) = false) := Lib.hid fun j hj => by
                          rcases Nat.lt_or_ge j 2 with h | h
                          · exact HK.out j h
                          · obtain rfl : j = 2 := by omega
                            exact hp
                        clear hpc hp HK
                        go_wp2_with fail
                        go_quiet (fail)
                        have B2 := B1.drewN
                        go_wp2_with fail
                        exact ⟨⟨2 + 1, by go_num, by omega, HK2, B2 _⟩, by simp [intOf]⟩
                    · have q1 := decide_eq_false (show ¬ (2 : Int) ≤ (S.size : Int) by omega)
                      have q2 := decide_eq_false (show ¬ 2 ≤ S.size from hl)
                      have HK2 : Hid (∀ j, j < 2 + 1 → preB S (mkA j) = false) := Lib.hid fun j hj => by
                        rcases Nat.lt_or_ge j 2 with h | h
                        · exact HK.out j h
                        · obtain rfl : j = 2 := by omega
                          exact preB_long S _ hl
                      clear hl HK
                      go_wp2_with fail
                      go_quiet (fail)
                      have B2 := B1.drewN
                      go_wp2_with fail
                      exact ⟨⟨2 + 1, by go_num, by omega, HK2, B2 _⟩, by simp [intOf]⟩
                · obtain rfl : k = 3 := by omega
                  subst hi
                  have hN := HN.out (HK.out 0 (by omega)) (HK.out 1 (by omega)) (HK.out 2 (by omega))
                  have hT := fun w h1 h2 => HTX.out (⟨#[97, 112, 112, 108, 105, 99, 97, 116, 105, 111, 110, 47, 114, 115, 115, 43, 120, 109, 108, 59, 99, 104, 97, 114, 115, 101, 116, 61, 119, 105, 110, 100, 111, 119, 115, 45, 49, 50, 53, 50]⟩ : ByteArray) S w (by decide) h1 h2
                  rw [hN] at hT
                  have HT2 := Lib.hid hT
                  have hcn : _ = some (Value.string (⟨#[119, 105, 110, 100, 111, 119, 115, 45, 49, 50, 53, 50]⟩ : ByteArray)) := B1.n.cell 3 rfl
                  skip
                  have e1 : (text.toList != text.toList) = false := by simp
                  have e2 : (text.toList == text.toList) = true := by simp
                  have hK : (⟨#[97, 112, 112, 108, 105, 99, 97, 116, 105, 111, 110, 47, 114, 115, 115, 43, 120, 109, 108, 59, 99, 104, 97, 114, 115, 101, 116, 61]⟩ : ByteArray) ++ (⟨#[119, 105, 110, 100, 111, 119, 115, 45, 49, 50, 53, 50]⟩ : ByteArray) = (⟨#[97, 112, 112, 108, 105, 99, 97, 116, 105, 111, 110, 47, 114, 115, 115, 43, 120, 109, 108, 59, 99, 104, 97, 114, 115, 101, 116, 61, 119, 105, 110, 100, 111, 119, 115, 45, 49, 50, 53, 50]⟩ : ByteArray) := by decide +kernel
                  clear hN hT HN HK
                  go_wp2_with fail
                  refine (HT2.out _ B1.l.mx B1.l.tb).mono ?_
                  rintro e w5 ⟨v5, rfl, ho5, hb5⟩
                  obtain ⟨a5, c5, rfl, -⟩ := CReads.of_own ho5
                  have B2 := B1.below hb5
                  clear ho5 hb5
                  clear hcn B1
                  go_wp2_with fail
                  refine (HW.out _ B2.l.mx B2.l.tb).mono ?_
                  rintro e w9 ⟨rfl, hb9⟩
                  have L9 := B2.l.below hb9
                  go_wp2_with fail
                  go_ret
                  exact ⟨rfl, L9.bl⟩
          · obtain ⟨Q, hQ⟩ : ∃ Q, encQ 4 text = Q := ⟨_, rfl⟩
            have hen := fun w => HEN.out 4 w
            have hen2 := fun h => back_named (⟨#[97, 112, 112, 108, 105, 99, 97, 116, 105, 111, 110, 47, 114, 115, 115, 43, 120, 109, 108, 59, 99, 104, 97, 114, 115, 101, 116, 61, 105, 115, 111, 45, 56, 56, 53, 57, 45, 53]⟩ : ByteArray) (⟨#[105, 115, 111, 45, 56, 56, 53, 57, 45, 53]⟩ : ByteArray) text 4 (by decide) (by decide) (by decide +kernel) (by decide +kernel) (by decide +kernel) htx h
            have hsz := fun h => (enc_there 4 (by decide) (by decide) text h).2
            rw [hQ] at hen hen2 hsz
            obtain ⟨S, ok⟩ := Q
            simp only at hen2 hsz
            have HE := Lib.hid hen
            clear hQ hen HEN
            go_wp2_with fail
            refine (HE.out _).mono ?_
            rintro e w3 ⟨rfl, hb3⟩
            obtain ⟨bn, hbn⟩ : ∃ b, w2.heap.size = b := ⟨_, rfl⟩
            rw [hbn] at B0 ⊢
            replace B0 := B0.below hb3
            clear hb3 hbn HE
            cases ok with
            | false =>
              clear hen2 hsz
              go_wp2_with fail
              refine (HW.out _ B0.l.mx B0.l.tb).mono ?_
              rintro e w9 ⟨rfl, hb9⟩
              have L9 := B0.l.below hb9
              go_wp2_with fail
              go_ret
              exact ⟨rfl, L9.bl⟩
            | true =>
              have hSz := hsz rfl
              have HN := Lib.hid (hen2 rfl)
              skip
              clear hen2 hsz
              go_wp2_with fail
              go_loopw [15] (fun i wr => ∃ k : Nat, i = .int .i64 k ∧ k ≤ 3 ∧ Hid (∀ j, j < k → preB S (mkA j) = false) ∧ BaI w m bn (bn + 1) wr) (fun i _ => 3 - (intOf i).toNat)
              case atStart => exact ⟨0, rfl, by omega, Lib.hid (fun j h => by omega), B0⟩
              case round =>
                clear B0
                obtain ⟨k, hi, hk, HK, B1⟩ := hrel
                by_cases hlt : k < 3
                · obtain rfl | rfl | rfl : k = 0 ∨ k = 1 ∨ k = 2 := by omega
                  · have hi2 : _ = Value.int .i64 0 := hi
                    subst hi2
                    clear hi
                    have hc : _ = some (Value.string (⟨#[239, 187, 191]⟩ : ByteArray)) := B1.k.cell 0 rfl
                    by_cases hl : 3 ≤ S.size
                    · have q1 := decide_eq_true (show (3 : Int) ≤ (S.size : Int) by omega)
                      have q2 := decide_eq_true (show 3 ≤ S.size from hl)
                      have hpc : preB S (mkA 0) = ((S.extract 0 3).toList == [239, 187, 191]) := by
                        rw [preB_cut S (mkA 0) hl, show (mkA 0).toList = [239, 187, 191] by decide +kernel]
                        rfl
                      cases hp : preB S (mkA 0) with
                      | true =>
                        rw [hp] at hpc
                        have q3 := hpc.symm
                        clear hpc hp HK
                        go_wp2_with fail
                        go_quiet (fail)
                        have B2 := B1.drewN
                        go_wp2_with fail
                        refine (HW.out _ (B2 _).l.mx (B2 _).l.tb).mono ?_
                        rintro e w9 ⟨rfl, hb9⟩
                        have L9 := (B2 _).l.below hb9
                        go_wp2_with fail
                        go_ret
                        exact ⟨rfl, L9.bl⟩
                      | false =>
                        rw [hp] at hpc
                        have q3 := hpc.symm
                        have HK2 : Hid (∀ j, j < 0 + 1 → preB S (mkA j) = false) := Lib.hid fun j hj => by
                          rcases Nat.lt_or_ge j 0 with h | h
                          · exact HK.out j h
                          · obtain rfl : j = 0 := by omega
                            exact hp
                        clear hpc hp HK
                        go_wp2_with fail
                        go_quiet (fail)
                        have B2 := B1.drewN
                        go_wp2_with fail
                        exact ⟨⟨0 + 1, by go_num, by omega, HK2, B2 _⟩, by simp [intOf]⟩
                    · have q1 := decide_eq_false (show ¬ (3 : Int) ≤ (S.size : Int) by omega)
                      have q2 := decide_eq_false (show ¬ 3 ≤ S.size from hl)
                      have HK2 : Hid (∀ j, j < 0 + 1 → preB S (mkA j) = false) := Lib.hid fun j hj => by
                        rcases Nat.lt_or_ge j 0 with h | h
                        · exact HK.out j h
                        · obtain rfl : j = 0 := by omega
                          exact preB_long S _ hl
                      clear hl HK
                      go_wp2_with fail
                      go_quiet (fail)
                      have B2 := B1.drewN
                      go_wp2_with fail
                      exact ⟨⟨0 + 1, by go_num, by omega, HK2, B2 _⟩, by simp [intOf]⟩
                  · have hi2 : _ = Value.int .i64 1 := hi
                    subst hi2
                    clear hi
                    have hc : _ = some (Value.string (⟨#[255, 254]⟩ : ByteArray)) := B1.k.cell 1 rfl
                    by_cases hl : 2 ≤ S.size
                    · have q1 := decide_eq_true (show (2 : Int) ≤ (S.size : Int) by omega)
                      have q2 := decide_eq_true (show 2 ≤ S.size from hl)
                      have hpc : preB S (mkA 1) = ((S.extract 0 2).toList == [255, 254]) := by
                        rw [preB_cut S (mkA 1) hl, show (mkA 1).toList = [255, 254] by decide +kernel]
                        rfl
                      cases hp : preB S (mkA 1) with
                      | true =>
                        rw [hp] at hpc
                        have q3 := hpc.symm
                        clear hpc hp HK
                        go_wp2_with fail
                        go_quiet (fail)
                        have B2 := B1.drewN
                        go_wp2_with fail
                        refine (HW.out _ (B2 _).l.mx (B2 _).l.tb).mono ?_
                        rintro e w9 ⟨rfl, hb9⟩
                        have L9 := (B2 _).l.below hb9
                        go_wp2_with fail
                        go_ret
                        exact ⟨rfl, L9.bl⟩
                      | false =>
                        rw [hp] at hpc
                        have q3 := hpc.symm
                        have HK2 : Hid (∀ j, j < 1 + 1 → preB S (mkA j) = false) := Lib.hid fun j hj => by
                          rcases Nat.lt_or_ge j 1 with h | h
                          · exact HK.out j h
                          · obtain rfl : j = 1 := by omega
                            exact hp
                        clear hpc hp HK
                        go_wp2_with fail
                        go_quiet (fail)
                        have B2 := B1.drewN
                        go_wp2_with fail
                        exact ⟨⟨1 + 1, by go_num, by omega, HK2, B2 _⟩, by simp [intOf]⟩
                    · have q1 := decide_eq_false (show ¬ (2 : Int) ≤ (S.size : Int) by omega)
                      have q2 := decide_eq_false (show ¬ 2 ≤ S.size from hl)
                      have HK2 : Hid (∀ j, j < 1 + 1 → preB S (mkA j) = false) := Lib.hid fun j hj => by
                        rcases Nat.lt_or_ge j 1 with h | h
                        · exact HK.out j h
                        · obtain rfl : j = 1 := by omega
                          exact preB_long S _ hl
                      clear hl HK
                      go_wp2_with fail
                      go_quiet (fail)
                      have B2 := B1.drewN
                      go_wp2_with fail
                      exact ⟨⟨1 + 1, by go_num, by omega, HK2, B2 _⟩, by simp [intOf]⟩
                  · have hi2 : _ = Value.int .i64 2 := hi
                    subst hi2
                    clear hi
                    have hc : _ = some (Value.string (⟨#[254, 255]⟩ : ByteArray)) := B1.k.cell 2 rfl
                    by_cases hl : 2 ≤ S.size
                    · have q1 := decide_eq_true (show (2 : Int) ≤ (S.size : Int) by omega)
                      have q2 := decide_eq_true (show 2 ≤ S.size from hl)
                      have hpc : preB S (mkA 2) = ((S.extract 0 2).toList == [254, 255]) := by
                        rw [preB_cut S (mkA 2) hl, show (mkA 2).toList = [254, 255] by decide +kernel]
                        rfl
                      cases hp : preB S (mkA 2) with
                      | true =>
                        rw [hp] at hpc
                        have q3 := hpc.symm
                        clear hpc hp HK
                        go_wp2_with fail
                        go_quiet (fail)
                        have B2 := B1.drewN
                        go_wp2_with fail
                        refine (HW.out _ (B2 _).l.mx (B2 _).l.tb).mono ?_
                        rintro e w9 ⟨rfl, hb9⟩
                        have L9 := (B2 _).l.below hb9
                        go_wp2_with fail
                        go_ret
                        exact ⟨rfl, L9.bl⟩
                      | false =>
                        rw [hp] at hpc
                        have q3 := hpc.symm
                        have HK2 : Hid (∀ j, j < 2 + 1 → preB S (mkA j) = false) := Lib.hid fun j hj => by
                          rcases Nat.lt_or_ge j 2 with h | h
                          · exact HK.out j h
                          · obtain rfl : j = 2 := by omega
                            exact hp
                        clear hpc hp HK
                        go_wp2_with fail
                        go_quiet (fail)
                        have B2 := B1.drewN
                        go_wp2_with fail
                        exact ⟨⟨2 + 1, by go_num, by omega, HK2, B2 _⟩, by simp [intOf]⟩
                    · have q1 := decide_eq_false (show ¬ (2 : Int) ≤ (S.size : Int) by omega)
                      have q2 := decide_eq_false (show ¬ 2 ≤ S.size from hl)
                      have HK2 : Hid (∀ j, j < 2 + 1 → preB S (mkA j) = false) := Lib.hid fun j hj => by
                        rcases Nat.lt_or_ge j 2 with h | h
                        · exact HK.out j h
                        · obtain rfl : j = 2 := by omega
                          exact preB_long S _ hl
                      clear hl HK
                      go_wp2_with fail
                      go_quiet (fail)
                      have B2 := B1.drewN
                      go_wp2_with fail
                      exact ⟨⟨2 + 1, by go_num, by omega, HK2, B2 _⟩, by simp [intOf]⟩
                · obtain rfl : k = 3 := by omega
                  subst hi
                  have hN := HN.out (HK.out 0 (by omega)) (HK.out 1 (by omega)) (HK.out 2 (by omega))
                  have hT := fun w h1 h2 => HTX.out (⟨#[97, 112, 112, 108, 105, 99, 97, 116, 105, 111, 110, 47, 114, 115, 115, 43, 120, 109, 108, 59, 99, 104, 97, 114, 115, 101, 116, 61, 105, 115, 111, 45, 56, 56, 53, 57, 45, 53]⟩ : ByteArray) S w (by decide) h1 h2
                  rw [hN] at hT
                  have HT2 := Lib.hid hT
                  have hcn : _ = some (Value.string (⟨#[105, 115, 111, 45, 56, 56, 53, 57, 45, 53]⟩ : ByteArray)) := B1.n.cell 4 rfl
                  skip
                  have e1 : (text.toList != text.toList) = false := by simp
                  have e2 : (text.toList == text.toList) = true := by simp
                  have hK : (⟨#[97, 112, 112, 108, 105, 99, 97, 116, 105, 111, 110, 47, 114, 115, 115, 43, 120, 109, 108, 59, 99, 104, 97, 114, 115, 101, 116, 61]⟩ : ByteArray) ++ (⟨#[105, 115, 111, 45, 56, 56, 53, 57, 45, 53]⟩ : ByteArray) = (⟨#[97, 112, 112, 108, 105, 99, 97, 116, 105, 111, 110, 47, 114, 115, 115, 43, 120, 109, 108, 59, 99, 104, 97, 114, 115, 101, 116, 61, 105, 115, 111, 45, 56, 56, 53, 57, 45, 53]⟩ : ByteArray) := by decide +kernel
                  clear hN hT HN HK
                  go_wp2_with fail
                  refine (HT2.out _ B1.l.mx B1.l.tb).mono ?_
                  rintro e w5 ⟨v5, rfl, ho5, hb5⟩
                  obtain ⟨a5, c5, rfl, -⟩ := CReads.of_own ho5
                  have B2 := B1.below hb5
                  clear ho5 hb5
                  clear hcn B1
                  go_wp2_with fail
                  refine (HW.out _ B2.l.mx B2.l.tb).mono ?_
                  rintro e w9 ⟨rfl, hb9⟩
                  have L9 := B2.l.below hb9
                  go_wp2_with fail
                  go_ret
                  exact ⟨rfl, L9.bl⟩
          · obtain ⟨Q, hQ⟩ : ∃ Q, encQ 5 text = Q := ⟨_, rfl⟩
            have hen := fun w => HEN.out 5 w
            have hen2 := fun h => back_named (⟨#[97, 112, 112, 108, 105, 99, 97, 116, 105, 111, 110, 47, 114, 115, 115, 43, 120, 109, 108, 59, 99, 104, 97, 114, 115, 101, 116, 61, 105, 115, 111, 45, 56, 56, 53, 57, 45, 49, 53]⟩ : ByteArray) (⟨#[105, 115, 111, 45, 56, 56, 53, 57, 45, 49, 53]⟩ : ByteArray) text 5 (by decide) (by decide) (by decide +kernel) (by decide +kernel) (by decide +kernel) htx h
            have hsz := fun h => (enc_there 5 (by decide) (by decide) text h).2
            rw [hQ] at hen hen2 hsz
            obtain ⟨S, ok⟩ := Q
            simp only at hen2 hsz
            have HE := Lib.hid hen
            clear hQ hen HEN
            go_wp2_with fail
            refine (HE.out _).mono ?_
            rintro e w3 ⟨rfl, hb3⟩
            obtain ⟨bn, hbn⟩ : ∃ b, w2.heap.size = b := ⟨_, rfl⟩
            rw [hbn] at B0 ⊢
            replace B0 := B0.below hb3
            clear hb3 hbn HE
            cases ok with
            | false =>
              clear hen2 hsz
              go_wp2_with fail
              refine (HW.out _ B0.l.mx B0.l.tb).mono ?_
              rintro e w9 ⟨rfl, hb9⟩
              have L9 := B0.l.below hb9
              go_wp2_with fail
              go_ret
              exact ⟨rfl, L9.bl⟩
            | true =>
              have hSz := hsz rfl
              have HN := Lib.hid (hen2 rfl)
              skip
              clear hen2 hsz
              go_wp2_with fail
              go_loopw [15] (fun i wr => ∃ k : Nat, i = .int .i64 k ∧ k ≤ 3 ∧ Hid (∀ j, j < k → preB S (mkA j) = false) ∧ BaI w m bn (bn + 1) wr) (fun i _ => 3 - (intOf i).toNat)
              case atStart => exact ⟨0, rfl, by omega, Lib.hid (fun j h => by omega), B0⟩
              case round =>
                clear B0
                obtain ⟨k, hi, hk, HK, B1⟩ := hrel
                by_cases hlt : k < 3
                · obtain rfl | rfl | rfl : k = 0 ∨ k = 1 ∨ k = 2 := by omega
                  · have hi2 : _ = Value.int .i64 0 := hi
                    subst hi2
                    clear hi
                    have hc : _ = some (Value.string (⟨#[239, 187, 191]⟩ : ByteArray)) := B1.k.cell 0 rfl
                    by_cases hl : 3 ≤ S.size
                    · have q1 := decide_eq_true (show (3 : Int) ≤ (S.size : Int) by omega)
                      have q2 := decide_eq_true (show 3 ≤ S.size from hl)
                      have hpc : preB S (mkA 0) = ((S.extract 0 3).toList == [239, 187, 191]) := by
                        rw [preB_cut S (mkA 0) hl, show (mkA 0).toList = [239, 187, 191] by decide +kernel]
                        rfl
                      cases hp : preB S (mkA 0) with
                      | true =>
                        rw [hp] at hpc
                        have q3 := hpc.symm
                        clear hpc hp HK
                        go_wp2_with fail
                        go_quiet (fail)
                        have B2 := B1.drewN
                        go_wp2_with fail
                        refine (HW.out _ (B2 _).l.mx (B2 _).l.tb).mono ?_
                        rintro e w9 ⟨rfl, hb9⟩
                        have L9 := (B2 _).l.below hb9
                        go_wp2_with fail
                        go_ret
                        exact ⟨rfl, L9.bl⟩
                      | false =>
                        rw [hp] at hpc
                        have q3 := hpc.symm
                        have HK2 : Hid (∀ j, j < 0 + 1 → preB S (mkA j) = false) := Lib.hid fun j hj => by
                          rcases Nat.lt_or_ge j 0 with h | h
                          · exact HK.out j h
                          · obtain rfl : j = 0 := by omega
                            exact hp
                        clear hpc hp HK
                        go_wp2_with fail
                        go_quiet (fail)
                        have B2 := B1.drewN
                        go_wp2_with fail
                        exact ⟨⟨0 + 1, by go_num, by omega, HK2, B2 _⟩, by simp [intOf]⟩
                    · have q1 := decide_eq_false (show ¬ (3 : Int) ≤ (S.size : Int) by omega)
                      have q2 := decide_eq_false (show ¬ 3 ≤ S.size from hl)
                      have HK2 : Hid (∀ j, j < 0 + 1 → preB S (mkA j) = false) := Lib.hid fun j hj => by
                        rcases Nat.lt_or_ge j 0 with h | h
                        · exact HK.out j h
                        · obtain rfl : j = 0 := by omega
                          exact preB_long S _ hl
                      clear hl HK
                      go_wp2_with fail
                      go_quiet (fail)
                      have B2 := B1.drewN
                      go_wp2_with fail
                      exact ⟨⟨0 + 1, by go_num, by omega, HK2, B2 _⟩, by simp [intOf]⟩
                  · have hi2 : _ = Value.int .i64 1 := hi
                    subst hi2
                    clear hi
                    have hc : _ = some (Value.string (⟨#[255, 254]⟩ : ByteArray)) := B1.k.cell 1 rfl
                    by_cases hl : 2 ≤ S.size
                    · have q1 := decide_eq_true (show (2 : Int) ≤ (S.size : Int) by omega)
                      have q2 := decide_eq_true (show 2 ≤ S.size from hl)
                      have hpc : preB S (mkA 1) = ((S.extract 0 2).toList == [255, 254]) := by
                        rw [preB_cut S (mkA 1) hl, show (mkA 1).toList = [255, 254] by decide +kernel]
                        rfl
                      cases hp : preB S (mkA 1) with
                      | true =>
                        rw [hp] at hpc
                        have q3 := hpc.symm
                        clear hpc hp HK
                        go_wp2_with fail
                        go_quiet (fail)
                        have B2 := B1.drewN
                        go_wp2_with fail
                        refine (HW.out _ (B2 _).l.mx (B2 _).l.tb).mono ?_
                        rintro e w9 ⟨rfl, hb9⟩
                        have L9 := (B2 _).l.below hb9
                        go_wp2_with fail
                        go_ret
                        exact ⟨rfl, L9.bl⟩
                      | false =>
                        rw [hp] at hpc
                        have q3 := hpc.symm
                        have HK2 : Hid (∀ j, j < 1 + 1 → preB S (mkA j) = false) := Lib.hid fun j hj => by
                          rcases Nat.lt_or_ge j 1 with h | h
                          · exact HK.out j h
                          · obtain rfl : j = 1 := by omega
                            exact hp
                        clear hpc hp HK
                        go_wp2_with fail
                        go_quiet (fail)
                        have B2 := B1.drewN
                        go_wp2_with fail
                        exact ⟨⟨1 + 1, by go_num, by omega, HK2, B2 _⟩, by simp [intOf]⟩
                    · have q1 := decide_eq_false (show ¬ (2 : Int) ≤ (S.size : Int) by omega)
                      have q2 := decide_eq_false (show ¬ 2 ≤ S.size from hl)
                      have HK2 : Hid (∀ j, j < 1 + 1 → preB S (mkA j) = false) := Lib.hid fun j hj => by
                        rcases Nat.lt_or_ge j 1 with h | h
                        · exact HK.out j h
                        · obtain rfl : j = 1 := by omega
                          exact preB_long S _ hl
                      clear hl HK
                      go_wp2_with fail
                      go_quiet (fail)
                      have B2 := B1.drewN
                      go_wp2_with fail
                      exact ⟨⟨1 + 1, by go_num, by omega, HK2, B2 _⟩, by simp [intOf]⟩
                  · have hi2 : _ = Value.int .i64 2 := hi
                    subst hi2
                    clear hi
                    have hc : _ = some (Value.string (⟨#[254, 255]⟩ : ByteArray)) := B1.k.cell 2 rfl
                    by_cases hl : 2 ≤ S.size
                    · have q1 := decide_eq_true (show (2 : Int) ≤ (S.size : Int) by omega)
                      have q2 := decide_eq_true (show 2 ≤ S.size from hl)
                      have hpc : preB S (mkA 2) = ((S.extract 0 2).toList == [254, 255]) := by
                        rw [preB_cut S (mkA 2) hl, show (mkA 2).toList = [254, 255] by decide +kernel]
                        rfl
                      cases hp : preB S (mkA 2) with
                      | true =>
                        rw [hp] at hpc
                        have q3 := hpc.symm
                        clear hpc hp HK
                        go_wp2_with fail
                        go_quiet (fail)
                        have B2 := B1.drewN
                        go_wp2_with fail
                        refine (HW.out _ (B2 _).l.mx (B2 _).l.tb).mono ?_
                        rintro e w9 ⟨rfl, hb9⟩
                        have L9 := (B2 _).l.below hb9
                        go_wp2_with fail
                        go_ret
                        exact ⟨rfl, L9.bl⟩
                      | false =>
                        rw [hp] at hpc
                        have q3 := hpc.symm
                        have HK2 : Hid (∀ j, j < 2 + 1 → preB S (mkA j) = false) := Lib.hid fun j hj => by
                          rcases Nat.lt_or_ge j 2 with h | h
                          · exact HK.out j h
                          · obtain rfl : j = 2 := by omega
                            exact hp
                        clear hpc hp HK
                        go_wp2_with fail
                        go_quiet (fail)
                        have B2 := B1.drewN
                        go_wp2_with fail
                        exact ⟨⟨2 + 1, by go_num, by omega, HK2, B2 _⟩, by simp [intOf]⟩
                    · have q1 := decide_eq_false (show ¬ (2 : Int) ≤ (S.size : Int) by omega)
                      have q2 := decide_eq_false (show ¬ 2 ≤ S.size from hl)
                      have HK2 : Hid (∀ j, j < 2 + 1 → preB S (mkA j) = false) := Lib.hid fun j hj => by
                        rcases Nat.lt_or_ge j 2 with h | h
                        · exact HK.out j h
                        · obtain rfl : j = 2 := by omega
                          exact preB_long S _ hl
                      clear hl HK
                      go_wp2_with fail
                      go_quiet (fail)
                      have B2 := B1.drewN
                      go_wp2_with fail
                      exact ⟨⟨2 + 1, by go_num, by omega, HK2, B2 _⟩, by simp [intOf]⟩
                · obtain rfl : k = 3 := by omega
                  subst hi
                  have hN := HN.out (HK.out 0 (by omega)) (HK.out 1 (by omega)) (HK.out 2 (by omega))
                  have hT := fun w h1 h2 => HTX.out (⟨#[97, 112, 112, 108, 105, 99, 97, 116, 105, 111, 110, 47, 114, 115, 115, 43, 120, 109, 108, 59, 99, 104, 97, 114, 115, 101, 116, 61, 105, 115, 111, 45, 56, 56, 53, 57, 45, 49, 53]⟩ : ByteArray) S w (by decide) h1 h2
                  rw [hN] at hT
                  have HT2 := Lib.hid hT
                  have hcn : _ = some (Value.string (⟨#[105, 115, 111, 45, 56, 56, 53, 57, 45, 49, 53]⟩ : ByteArray)) := B1.n.cell 5 rfl
                  skip
                  have e1 : (text.toList != text.toList) = false := by simp
                  have e2 : (text.toList == text.toList) = true := by simp
                  have hK : (⟨#[97, 112, 112, 108, 105, 99, 97, 116, 105, 111, 110, 47, 114, 115, 115, 43, 120, 109, 108, 59, 99, 104, 97, 114, 115, 101, 116, 61]⟩ : ByteArray) ++ (⟨#[105, 115, 111, 45, 56, 56, 53, 57, 45, 49, 53]⟩ : ByteArray) = (⟨#[97, 112, 112, 108, 105, 99, 97, 116, 105, 111, 110, 47, 114, 115, 115, 43, 120, 109, 108, 59, 99, 104, 97, 114, 115, 101, 116, 61, 105, 115, 111, 45, 56, 56, 53, 57, 45, 49, 53]⟩ : ByteArray) := by decide +kernel
                  clear hN hT HN HK
                  go_wp2_with fail
                  refine (HT2.out _ B1.l.mx B1.l.tb).mono ?_
                  rintro e w5 ⟨v5, rfl, ho5, hb5⟩
                  obtain ⟨a5, c5, rfl, -⟩ := CReads.of_own ho5
                  have B2 := B1.below hb5
                  clear ho5 hb5
                  clear hcn B1
                  go_wp2_with fail
                  refine (HW.out _ B2.l.mx B2.l.tb).mono ?_
                  rintro e w9 ⟨rfl, hb9⟩
                  have L9 := B2.l.below hb9
                  go_wp2_with fail
                  go_ret
                  exact ⟨rfl, L9.bl⟩
end Go.Proofs.YthahfoliblgegaaGreatDoor
