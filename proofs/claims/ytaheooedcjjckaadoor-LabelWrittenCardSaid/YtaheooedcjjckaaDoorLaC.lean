/-
  Layer 5: the walks of Trim, Lower; the document's Lower.
-/
import Derived.Test.YtaheooedcjjckaaDoorLaB
import Derived.Test.YtaheooedcjjckaaDoorMeV
namespace Go.Proofs.YtaheooedcjjckaaDoor
open Go.RowKit
theorem trim1 (s : ByteArray) (k : Nat) (I : Int) (h : k < s.size) (hI : I = k) (c : Int) (hc : (s[k].toNat : Int) = c) (B : Nat) (w : World) (hb : w.cell? ⟨B, 0, none⟩ = some (.string s)) :
    Calls Tryd.prog 21 #[.int .i64 I, .pointer (some ⟨B, 0, none⟩)] w fun e w' => e = .returned (.bool (wsN c)) ∧ w = w' := by
  have hix := index_str s k h c I hc hI
  have hIB := Tryd.strings_IndexByte ⟨#[9, 10, 12, 13, 32]⟩ c
  have hw : decide (0 ≤ Lib.indexByte (⟨#[9, 10, 12, 13, 32]⟩ : ByteArray).data.toList c.toNat.toUInt8) = wsN c := by
    rw [← hc]
    exact indexB_ws _ (byte256 s k h)
  obtain ⟨n, hn⟩ : ∃ n, Lib.indexByte (⟨#[9, 10, 12, 13, 32]⟩ : ByteArray).data.toList c.toNat.toUInt8 = n := ⟨_, rfl⟩
  rw [hn] at hIB hw
  have HW := Lib.hid hw
  have h1 : (0 : Int) ≤ I := by omega
  have h2 : I < (s.size : Int) := by omega
  clear hw hn hc hI
  go_enter Tryd.func21, Tryd.ntmps21
  go_wp2_with fail
  refine (hIB _).mono ?_
  rintro e w' ⟨rfl, rfl⟩
  go_wp2
  go_ret
  exact ⟨ret_bool HW.out, rfl⟩
set_option maxHeartbeats 1000000 in
theorem label_Trim (s : ByteArray) (w : World) (hs : s.size ≤ 1000000) : Calls Tryd.prog 15 #[.string s] w fun e w' => e = .returned (.string (trimS s)) ∧ Below w.heap.size w w' := by
  obtain ⟨F, hF⟩ : ∃ F, frmS s = F := ⟨_, rfl⟩
  obtain ⟨E, hE⟩ : ∃ F, endW ((nums s).drop (frmS s)) = F := ⟨_, rfl⟩
  have hX := Lib.hid (trimS_ext s)
  rw [hE, hF] at hX
  rw [hF] at hE
  have lF : F ≤ s.size := by rw [← hF]; exact frmS_le s
  have HF := Lib.hid hF
  have HE := Lib.hid hE
  clear hF hE
  have hb1 := (Below.refl w.heap.size w).alloc (Nat.le_refl _) (.cells #[.string s] 9)
  have bk1 := BlkAt.new w #[.string s] 9
  obtain ⟨w1, hw1⟩ : ∃ x, w.alloc (.cells #[.string s] 9) = x := ⟨_, rfl⟩
  obtain ⟨B, hB⟩ : ∃ x, w.heap.size = x := ⟨_, rfl⟩
  rw [hw1] at hb1 bk1
  rw [hB] at bk1
  have d0 := bk1.cell 0 rfl
  go_enter Tryd.func15, Tryd.ntmps15
  go_wp2_with fail
  go_quiet (fail)
  have hb2 := below_dn hb1 nq
  have bk2 := bk1.drewN nq
  have dc := bk2.cell 0 rfl
  generalize w1.drewN nq = W at hb2 bk2 dc ⊢
  clear bk1 d0 hb1
  go_upto_block 0 with fail
  go_cut [4] (fun x wx => x = .int .i64 F ∧ W = wx)
  case first =>
    go_wp2_with fail
    go_loop [4] (fun i => ∃ k : Nat, i = .int .i64 k ∧ k ≤ s.size ∧ Hid (k + (((nums s).drop k).takeWhile wsN).length = frmS s)) (fun i => s.size - (intOf i).toNat)
    case atStart => exact ⟨0, rfl, by omega, Lib.hid (by rw [List.drop_zero, Nat.zero_add]; rfl)⟩
    case round =>
      obtain ⟨k, rfl, hk, HK⟩ := hrel
      by_cases hlt : k < s.size
      · obtain ⟨c, hc⟩ : ∃ c : Int, (s[k].toNat : Int) = c := ⟨_, rfl⟩
        have hix := index_str s k hlt c k hc rfl
        have hst := frmS_step s k hlt HK.out
        rw [hc] at hst
        have HW := Lib.hid (fun (u : World) (hu : u.cell? ⟨B, 0, none⟩ = some (.string s)) => trim1 s k (k : Int) (by omega) (by omega) c hc B u hu)
        cases hw : wsN c with
        | true =>
          have HK2 := Lib.hid (hst.1 hw)
          rw [hw] at HW
          clear hc hst hw
          go_wp2_with fail
          refine (HW.out _ dc).mono ?_
          rintro e w' ⟨rfl, rfl⟩
          go_wp2_with fail
          exact ⟨⟨k + 1, by go_num, by omega, HK2⟩, by simp [intOf]; omega⟩
        | false =>
          have HK2 := Lib.hid (hst.2 hw)
          rw [hw] at HW
          clear hc hst hw
          go_wp2_with fail
          refine (HW.out _ dc).mono ?_
          rintro e w' ⟨rfl, rfl⟩
          go_wp2_with fail
          go_meet
          exact ⟨by rw [HK2.out, HF.out], rfl⟩
      · have HK2 := Lib.hid (frmS_end s k (by omega) HK.out)
        go_wp2_with fail
        go_meet
        exact ⟨by rw [HK2.out, HF.out], rfl⟩
  case rest =>
    obtain ⟨rfl, rfl⟩ := hcut
    go_wp2_with fail
    go_loop [5] (fun i => ∃ j : Nat, i = .int .i64 j ∧ F ≤ j ∧ j ≤ s.size ∧ Hid (endW (((nums s).drop F).take (j - F)) = E)) (fun i => (intOf i).toNat)
    case atStart => exact ⟨s.size, rfl, lF, Nat.le_refl _, Lib.hid (by rw [endS_start s F, HE.out])⟩
    case round =>
      obtain ⟨j, rfl, hFj, hj, HJ⟩ := hrel
      have hi1 : (F : Int) ≤ (j : Int) := by omega
      have hi2 : (j : Int) ≤ (s.size : Int) := by omega
      by_cases hlt : F < j
      · have hst := endS_step s F j hlt hj E HJ.out
        obtain ⟨c, hc⟩ : ∃ c : Int, ((s[j - 1]'(by omega)).toNat : Int) = c := ⟨_, rfl⟩
        have hix := index_str s (j - 1) (by omega) c ((j : Int) - 1) hc (by omega)
        rw [hc] at hst
        have hi3 : (F : Int) < (j : Int) := by omega
        have HW := Lib.hid (fun (u : World) (hu : u.cell? ⟨B, 0, none⟩ = some (.string s)) => trim1 s (j - 1) ((j : Int) - 1) (by omega) (by omega) c hc B u hu)
        cases hw : wsN c with
        | true =>
          have HK2 := Lib.hid (hst.1 hw)
          rw [hw] at HW
          clear hc hst hw
          go_wp2_with fail
          refine (HW.out _ dc).mono ?_
          rintro e w' ⟨rfl, rfl⟩
          go_wp2_with fail
          exact ⟨⟨j - 1, by congr 1; first | omega | (simp; omega), by omega, by omega, HK2⟩, by simp [intOf]; omega⟩
        | false =>
          have HK2 := Lib.hid (hst.2 hw)
          rw [hw] at HW
          clear hc hst hw
          go_wp2_with fail
          refine (HW.out _ dc).mono ?_
          rintro e w' ⟨rfl, rfl⟩
          go_wp2_with fail
          go_ret
          exact ⟨ret_str (by rw [← hX.out, ← HK2.out]), by first | exact hb2 | exact hB ▸ hb2⟩
      · have HK2 := Lib.hid (show j = F + E by
          have := HJ.out
          rw [show j - F = 0 by omega, List.take_zero, endW_nil] at this
          omega)
        go_wp2_with fail
        go_ret
        exact ⟨ret_str (by rw [← hX.out, ← HK2.out]), by first | exact hb2 | exact hB ▸ hb2⟩
end Go.Proofs.YtaheooedcjjckaaDoor
