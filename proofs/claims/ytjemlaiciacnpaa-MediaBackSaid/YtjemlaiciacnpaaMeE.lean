/-
  A row of bytes that a conversion made, written on; the walks of Lower, in media and in the reference.
-/
import Derived.Test.YtjemlaiciacnpaaMeC
import Derived.Test.YtjemlaiciacnpaaBy
import Derived.Test.YtjemlaiciacnpaaLo
import Derived.Lib.ConvBytes
import Derived.Lib.BufferMore
namespace Go.Proofs.Ytjemlaiciacnpaa
open Go.RowKit
set_option maxRecDepth 100000 in
set_option maxHeartbeats 4000000 in
theorem media_Lower (s : ByteArray) (w : World) (hs : s.size ≤ 1099511627776) :
    Calls Try.prog 15 #[.string s] w fun e w' => e = .returned (.string (strOfNums (lowL (nums s)))) ∧ Below w.heap.size w w' := by
  have hcv := Lib.run_convert_string_bytes (P := Try.prog) w 9 52 5 s Try.underlying9 Try.underlying52 Try.underlying5
  obtain ⟨cap, hcap⟩ : ∃ cap, grownCap w s.size 0 5 = cap := ⟨_, rfl⟩
  have hrow := LowRow.made w 5 s
  have hbl := bytes_below w 5 s
  obtain ⟨w1, hw1⟩ : ∃ w1, Lib.bytesWorld w 5 s = w1 := ⟨_, rfl⟩
  rw [hcap, hw1] at hcv
  rw [hw1] at hrow hbl
  clear hw1 hcap
  obtain ⟨p, hp⟩ : ∃ p, w.heap.size = p := ⟨_, rfl⟩
  have HP := Lib.hid hp
  rw [hp] at hcv hrow hbl
  clear hp
  go_enter Try.func15, Try.ntmps15
  go_wp2
  go_loopw [10] (fun i wr => ∃ k : Nat, i = .int .i64 k ∧ k ≤ s.size ∧ LowRow wr p (fillL s k) ∧ Below p w1 wr) (fun i _ => s.size - (intOf i).toNat)
  case atStart => exact ⟨0, rfl, by omega, by rw [fillL_zero]; exact hrow, Below.refl _ _⟩
  case round =>
    obtain ⟨k, rfl, hk, hr, hb⟩ := hrel
    by_cases hlt : k < s.size
    · have hca := hr.cellAt k (by rw [fillL_len]; exact hlt)
      rw [fillL_at s k hlt] at hca
      have hfz := hr.frozenAt k (by rw [fillL_len]; exact hlt)
      have hsn := fillL_step s k hlt
      obtain ⟨c, hc⟩ : ∃ c, s[k].toNat = c := ⟨_, rfl⟩
      have hc256 : c < 256 := by rw [← hc]; exact byte256 s k hlt
      rw [hc] at hca hsn
      by_cases hu : 65 ≤ c ∧ c ≤ 90
      · obtain ⟨hu1, hu2⟩ := hu
        have hor := or32 c hu1 hu2
        have hst := hr.stored k ((c : Int) + 32)
        rw [show lowB (c : Int) = (c : Int) + 32 from if_pos (by omega)] at hsn
        rw [← hsn] at hst
        have HS := Lib.hid hst
        clear hsn hst hc
        have p1 := decide_eq_true (show (65 : Int) ≤ (c : Int) by omega)
        have p2 := decide_eq_true (show (c : Int) ≤ (90 : Int) by omega)
        go_wp2
        exact ⟨⟨k + 1, by go_num, by omega, HS.out, hb.setCell (Nat.le_refl _) _⟩, by simp [intOf]; omega⟩
      · rw [show lowB (c : Int) = (c : Int) from if_neg (by omega)] at hsn
        have hset : (fillL s k).set k (c : Int) = fillL s k := by
          have h4 := fillL_at s k hlt
          rw [hc] at h4
          rw [← h4, List.set_getElem_self]
        rw [hset] at hsn
        have hr' := hr
        rw [← hsn] at hr'
        have HS := Lib.hid hr'
        clear hsn hr' hset hc
        by_cases hv : 65 ≤ c
        · have p1 := decide_eq_true (show (65 : Int) ≤ (c : Int) by omega)
          have p2 := decide_eq_false (show ¬ (c : Int) ≤ (90 : Int) by omega)
          clear hu
          go_wp2
          exact ⟨⟨k + 1, by go_num, by omega, HS.out, hb⟩, by simp [intOf]; omega⟩
        · have p1 := decide_eq_false (show ¬ (65 : Int) ≤ (c : Int) by omega)
          clear hu
          go_wp2
          exact ⟨⟨k + 1, by go_num, by omega, HS.out, hb⟩, by simp [intOf]; omega⟩
    · obtain rfl : k = s.size := by omega
      rw [fillL_end] at hr
      have hcv2 := hr.conv s.size cap (by unfold lowL; rw [List.length_map, nums_length])
      go_wp2
      go_ret
      exact ⟨rfl, by rw [HP.out]; exact hbl.trans hb⟩
set_option maxRecDepth 100000 in
set_option maxHeartbeats 4000000 in
theorem ref06_Lower (s : ByteArray) (w : World) (hs : s.size ≤ 1099511627776) :
    Calls Try.prog 16 #[.string s] w fun e w' => e = .returned (.string (strOfNums (lowL (nums s)))) ∧ Below w.heap.size w w' := by
  have hcv := Lib.run_convert_string_bytes (P := Try.prog) w 9 52 5 s Try.underlying9 Try.underlying52 Try.underlying5
  obtain ⟨cap, hcap⟩ : ∃ cap, grownCap w s.size 0 5 = cap := ⟨_, rfl⟩
  have hrow := LowRow.made w 5 s
  have hbl := bytes_below w 5 s
  obtain ⟨w1, hw1⟩ : ∃ w1, Lib.bytesWorld w 5 s = w1 := ⟨_, rfl⟩
  rw [hcap, hw1] at hcv
  rw [hw1] at hrow hbl
  clear hw1 hcap
  obtain ⟨p, hp⟩ : ∃ p, w.heap.size = p := ⟨_, rfl⟩
  have HP := Lib.hid hp
  rw [hp] at hcv hrow hbl
  clear hp
  go_enter Try.func16, Try.ntmps16
  go_wp2
  go_loopw [4] (fun i wr => ∃ k : Nat, i = .int .i64 k ∧ k ≤ s.size ∧ LowRow wr p (fillL s k) ∧ Below p w1 wr) (fun i _ => s.size - (intOf i).toNat)
  case atStart => exact ⟨0, rfl, by omega, by rw [fillL_zero]; exact hrow, Below.refl _ _⟩
  case round =>
    obtain ⟨k, rfl, hk, hr, hb⟩ := hrel
    by_cases hlt : k < s.size
    · have hca := hr.cellAt k (by rw [fillL_len]; exact hlt)
      rw [fillL_at s k hlt] at hca
      have hfz := hr.frozenAt k (by rw [fillL_len]; exact hlt)
      have hsn := fillL_step s k hlt
      obtain ⟨c, hc⟩ : ∃ c, s[k].toNat = c := ⟨_, rfl⟩
      have hc256 : c < 256 := by rw [← hc]; exact byte256 s k hlt
      rw [hc] at hca hsn
      by_cases hu : 65 ≤ c ∧ c ≤ 90
      · obtain ⟨hu1, hu2⟩ := hu
        have hst := hr.stored k ((c : Int) + 32)
        rw [show lowB (c : Int) = (c : Int) + 32 from if_pos (by omega)] at hsn
        rw [← hsn] at hst
        have HS := Lib.hid hst
        clear hsn hst hc
        have p1 := decide_eq_true (show (65 : Int) ≤ (c : Int) by omega)
        have p2 := decide_eq_true (show (c : Int) ≤ (90 : Int) by omega)
        go_wp2
        exact ⟨⟨k + 1, by go_num, by omega, HS.out, hb.setCell (Nat.le_refl _) _⟩, by simp [intOf]; omega⟩
      · rw [show lowB (c : Int) = (c : Int) from if_neg (by omega)] at hsn
        have hset : (fillL s k).set k (c : Int) = fillL s k := by
          have h4 := fillL_at s k hlt
          rw [hc] at h4
          rw [← h4, List.set_getElem_self]
        rw [hset] at hsn
        have hr' := hr
        rw [← hsn] at hr'
        have HS := Lib.hid hr'
        clear hsn hr' hset hc
        by_cases hv : 65 ≤ c
        · have p1 := decide_eq_true (show (65 : Int) ≤ (c : Int) by omega)
          have p2 := decide_eq_false (show ¬ (c : Int) ≤ (90 : Int) by omega)
          clear hu
          go_wp2
          exact ⟨⟨k + 1, by go_num, by omega, HS.out, hb⟩, by simp [intOf]; omega⟩
        · have p1 := decide_eq_false (show ¬ (65 : Int) ≤ (c : Int) by omega)
          clear hu
          go_wp2
          exact ⟨⟨k + 1, by go_num, by omega, HS.out, hb⟩, by simp [intOf]; omega⟩
    · obtain rfl : k = s.size := by omega
      rw [fillL_end] at hr
      have hcv2 := hr.conv s.size cap (by unfold lowL; rw [List.length_map, nums_length])
      go_wp2
      go_ret
      exact ⟨rfl, by rw [HP.out]; exact hbl.trans hb⟩
end Go.Proofs.Ytjemlaiciacnpaa
