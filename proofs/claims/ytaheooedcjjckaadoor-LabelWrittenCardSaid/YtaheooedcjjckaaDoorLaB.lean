/-
  Layer 5: the walks of Trim; the document's white, Trim.
-/
import Derived.Test.YtaheooedcjjckaaDoorLaA
import Derived.Test.YtaheooedcjjckaaDoorU8C
import Derived.Test.YtaheooedcjjckaaDoorBy
import Derived.Deep.CutBlock
import Derived.Deep.DeepCutAuto
namespace Go.Proofs.YtaheooedcjjckaaDoor
open Go.RowKit
theorem indexB_ws (c : Nat) (h : c < 256) : decide (0 ≤ Lib.indexByte (⟨#[9, 10, 12, 13, 32]⟩ : ByteArray).data.toList (c : Int).toNat.toUInt8) = wsN (c : Int) := by
  have h := List.all_eq_true.1 (show ((List.range 256).all fun c => decide (0 ≤ Lib.indexByte (⟨#[9, 10, 12, 13, 32]⟩ : ByteArray).data.toList (c : Int).toNat.toUInt8) == wsN (c : Int)) = true by decide +kernel) c (List.mem_range.2 h)
  exact beq_iff_eq.1 h
theorem frmS_step (s : ByteArray) (k : Nat) (h : k < s.size) (hk : k + (((nums s).drop k).takeWhile wsN).length = frmS s) : (wsN (s[k].toNat : Int) = true → (k + 1) + (((nums s).drop (k + 1)).takeWhile wsN).length = frmS s) ∧ (wsN (s[k].toNat : Int) = false → k = frmS s) := by
  rw [nums_drop s k h, List.takeWhile_cons] at hk
  constructor
  · intro hw
    rw [if_pos hw, List.length_cons] at hk
    omega
  · intro hw
    rw [if_neg (by rw [hw]; decide)] at hk
    simpa using hk
theorem frmS_end (s : ByteArray) (k : Nat) (h : s.size ≤ k) (hk : k + (((nums s).drop k).takeWhile wsN).length = frmS s) : k = frmS s := by
  rw [nums_drop_end s k h] at hk
  simpa using hk
theorem frmS_le (s : ByteArray) : frmS s ≤ s.size := by
  unfold frmS
  have := (List.takeWhile_prefix wsN (l := nums s)).length_le
  rwa [nums_length] at this
theorem endS_step (s : ByteArray) (F j : Nat) (h : F < j) (hj : j ≤ s.size) (E : Nat) (hE : endW (((nums s).drop F).take (j - F)) = E) :
    (wsN ((s[j - 1]'(by omega)).toNat : Int) = true → endW (((nums s).drop F).take (j - 1 - F)) = E) ∧ (wsN ((s[j - 1]'(by omega)).toNat : Int) = false → j = F + E) := by
  have e : ((nums s).drop F).take (j - F) = ((nums s).drop F).take (j - 1 - F) ++ [((s[j - 1]'(by omega)).toNat : Int)] := by
    rw [show j - F = (j - 1 - F) + 1 by omega, List.take_add_one, List.getElem?_drop, show F + (j - 1 - F) = j - 1 by omega, List.getElem?_eq_getElem (by rw [nums_length]; omega), nums_at s (j - 1) (by omega)]
    rfl
  rw [e, endW_snoc] at hE
  constructor
  · intro hw
    rw [if_pos hw] at hE
    exact hE
  · intro hw
    rw [if_neg (by rw [hw]; decide), List.length_take, List.length_drop, nums_length] at hE
    omega
theorem endS_start (s : ByteArray) (F : Nat) : endW (((nums s).drop F).take (s.size - F)) = endW ((nums s).drop F) := by rw [List.take_of_length_le (by rw [List.length_drop, nums_length]; omega)]
theorem ref05_white (c : Int) (w : World) : Calls Tryd.prog 23 #[.int .u8 c] w fun e w' => e = .returned (.bool (wsN c)) ∧ w = w' := by
  have HE := Lib.hid (show wsN c = (c == 9 || (c == 10 || (c == 12 || (c == 13 || c == 32)))) by
    unfold wsN
    cases c == 32 <;> cases c == 9 <;> cases c == 10 <;> cases c == 13 <;> cases c == 12 <;> rfl)
  cases q1 : c == 9 with
  | true =>
    go_enter Tryd.func23, Tryd.ntmps23
    go_wp2
    go_ret
    exact ⟨by rw [HE.out, q1]; rfl, rfl⟩
  | false =>
    cases q2 : c == 10 with
    | true =>
      go_enter Tryd.func23, Tryd.ntmps23
      go_wp2
      go_ret
      exact ⟨by rw [HE.out, q1, q2]; rfl, rfl⟩
    | false =>
      cases q3 : c == 12 with
      | true =>
        go_enter Tryd.func23, Tryd.ntmps23
        go_wp2
        go_ret
        exact ⟨by rw [HE.out, q1, q2, q3]; rfl, rfl⟩
      | false =>
        cases q4 : c == 13 with
        | true =>
          go_enter Tryd.func23, Tryd.ntmps23
          go_wp2
          go_ret
          exact ⟨by rw [HE.out, q1, q2, q3, q4]; rfl, rfl⟩
        | false =>
          go_enter Tryd.func23, Tryd.ntmps23
          go_wp2
          go_ret
          exact ⟨by rw [HE.out, q1, q2, q3, q4]; rfl, rfl⟩
set_option maxHeartbeats 1000000 in
theorem ref05_Trim (s : ByteArray) (w : World) (hs : s.size ≤ 1000000) : Calls Tryd.prog 16 #[.string s] w fun e w' => e = .returned (.string (trimS s)) ∧ w = w' := by
  obtain ⟨F, hF⟩ : ∃ F, frmS s = F := ⟨_, rfl⟩
  obtain ⟨E, hE⟩ : ∃ F, endW ((nums s).drop (frmS s)) = F := ⟨_, rfl⟩
  have hX := Lib.hid (trimS_ext s)
  rw [hE, hF] at hX
  rw [hF] at hE
  have lF : F ≤ s.size := by rw [← hF]; exact frmS_le s
  have HF := Lib.hid hF
  have HE := Lib.hid hE
  clear hF hE
  go_enter Tryd.func16, Tryd.ntmps16
  go_upto_block 0 with fail
  go_cut [3] (fun x wx => x = .int .i64 F ∧ w = wx)
  case first =>
    go_wp2_with fail
    go_loop [3] (fun i => ∃ k : Nat, i = .int .i64 k ∧ k ≤ s.size ∧ Hid (k + (((nums s).drop k).takeWhile wsN).length = frmS s)) (fun i => s.size - (intOf i).toNat)
    case atStart => exact ⟨0, rfl, by omega, Lib.hid (by rw [List.drop_zero, Nat.zero_add]; rfl)⟩
    case round =>
      obtain ⟨k, rfl, hk, HK⟩ := hrel
      by_cases hlt : k < s.size
      · obtain ⟨c, hc⟩ : ∃ c : Int, (s[k].toNat : Int) = c := ⟨_, rfl⟩
        have hix := index_str s k hlt c k hc rfl
        have hst := frmS_step s k hlt HK.out
        rw [hc] at hst
        have HW := Lib.hid (fun u => ref05_white c u)
        cases hw : wsN c with
        | true =>
          have HK2 := Lib.hid (hst.1 hw)
          rw [hw] at HW
          clear hc hst hw
          go_wp2_with fail
          refine (HW.out _).mono ?_
          rintro e w' ⟨rfl, rfl⟩
          go_wp2_with fail
          exact ⟨⟨k + 1, by go_num, by omega, HK2⟩, by simp [intOf]; omega⟩
        | false =>
          have HK2 := Lib.hid (hst.2 hw)
          rw [hw] at HW
          clear hc hst hw
          go_wp2_with fail
          refine (HW.out _).mono ?_
          rintro e w' ⟨rfl, rfl⟩
          go_wp2_with fail
          go_meet
          exact ⟨by rw [HK2.out, HF.out], rfl⟩
      · have HK2 := Lib.hid (frmS_end s k (by omega) HK.out)
        go_wp2_with fail
        go_meet
        exact ⟨by rw [HK2.out, HF.out], rfl⟩
  case rest =>
    obtain ⟨rfl, rfl⟩ := hcut
    go_wp2_with fail
    go_loop [4] (fun i => ∃ j : Nat, i = .int .i64 j ∧ F ≤ j ∧ j ≤ s.size ∧ Hid (endW (((nums s).drop F).take (j - F)) = E)) (fun i => (intOf i).toNat)
    case atStart => exact ⟨s.size, rfl, lF, Nat.le_refl _, Lib.hid (by rw [endS_start s F, HE.out])⟩
    case round =>
      obtain ⟨j, rfl, hFj, hj, HJ⟩ := hrel
      have hi1 : (F : Int) ≤ (j : Int) := by omega
      have hi2 : (j : Int) ≤ (s.size : Int) := by omega
      by_cases hlt : F < j
      · have hst := endS_step s F j hlt hj E HJ.out
        obtain ⟨c, hc⟩ : ∃ c : Int, ((s[j - 1]'(by omega)).toNat : Int) = c := ⟨_, rfl⟩
        have hix := index_str s (j - 1) (by omega) c ((j : Int) - 1) hc (by omega)
        rw [hc] at hst
        have hi3 : (F : Int) < (j : Int) := by omega
        have HW := Lib.hid (fun u => ref05_white c u)
        cases hw : wsN c with
        | true =>
          have HK2 := Lib.hid (hst.1 hw)
          rw [hw] at HW
          clear hc hst hw
          go_wp2_with fail
          refine (HW.out _).mono ?_
          rintro e w' ⟨rfl, rfl⟩
          go_wp2_with fail
          exact ⟨⟨j - 1, by congr 1; first | omega | (simp; omega), by omega, by omega, HK2⟩, by simp [intOf]; omega⟩
        | false =>
          have HK2 := Lib.hid (hst.2 hw)
          rw [hw] at HW
          clear hc hst hw
          go_wp2_with fail
          refine (HW.out _).mono ?_
          rintro e w' ⟨rfl, rfl⟩
          go_wp2_with fail
          go_ret
          exact ⟨ret_str (by rw [← hX.out, ← HK2.out]), rfl⟩
      · have HK2 := Lib.hid (show j = F + E by
          have := HJ.out
          rw [show j - F = 0 by omega, List.take_zero, endW_nil] at this
          omega)
        go_wp2_with fail
        go_ret
        exact ⟨ret_str (by rw [← hX.out, ← HK2.out]), rfl⟩
end Go.Proofs.YtaheooedcjjckaaDoor
