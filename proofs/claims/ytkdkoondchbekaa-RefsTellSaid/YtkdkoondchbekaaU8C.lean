/-
  The walks of utf8: follow, piece, Next, and the reference's lead, part, Next: what stands at a byte.
-/
import Derived.Test.YtkdkoondchbekaaU8B
namespace Go.Proofs.Ytkdkoondchbekaa
open Go.RowKit
attribute [local go_sem] i64_and63 i64_and31 i64_and15 i64_and7
set_option maxHeartbeats 400000 in
theorem utf8_follow (c : Int) (w : World) (h0 : 0 ≤ c) (h1 : c < 256) :
    Calls Try.prog 66 #[.int .u8 c] w fun e w' => e = .returned (.tuple #[.int .i64 (fMore c), .int .i64 (fBits c), .int .u8 (fFrom c), .int .u8 (fTo c)]) ∧ w = w' := by
  go_enter Try.func66, Try.ntmps66
  go_wp2
  all_goals
    go_light
    (try simp only [beq_iff_eq, beq_eq_false_iff_ne] at *)
    refine bodyPost_ret (results_tmp4 rfl _ _ _) rfl ?_
    refine ⟨ret4 (v_int ?_) (v_int ?_) (v_int ?_) (v_int ?_), rfl⟩
    · unfold fMore; split <;> (try split) <;> (try split) <;> (try split) <;> first | rfl | omega
    · unfold fBits; split <;> (try split) <;> (try split) <;> (try split) <;> first | rfl | omega
    · unfold fFrom; split <;> (try split) <;> first | rfl | omega
    · unfold fTo; split <;> (try split) <;> first | rfl | omega
theorem index_str (s : ByteArray) (k : Nat) (h : k < s.size) (d i : Int) (hd : (s[k].toNat : Int) = d) (hi : i = k) (w : World) :
    (Instr.index 9 (.string s) (.int .i64 i)).run Try.prog w = .ok (.int .u8 d) w := by
  subst hi
  rw [run_index_string w _ _ _ _ Try.underlying9]
  simp [h, hd]
/-- the loop's relation: what is read so far leads to what the whole piece is. -/
def PieceAt (s : ByteArray) (k : Nat) (M : Nat) (r n fr to : Value) : Prop :=
  ∃ (ri fi ti : Int) (m : Nat), r = .int .i64 ri ∧ n = .int .i64 m ∧ fr = .int .u8 fi ∧ to = .int .u8 ti ∧ 1 ≤ m ∧ m ≤ M + 1 ∧ 0 ≤ ri ∧ 0 ≤ fi ∧ fi < 256 ∧ 0 ≤ ti ∧ ti < 256 ∧ (m = 1 → ri < 128) ∧ (m = 2 → ri < 8192) ∧ (m = 3 → ri < 524288) ∧ (m = 4 → ri < 33554432) ∧
    conts (M + 1 - m) ri fi ti m ((nums s).drop (k + m)) = piece ((nums s).drop k)
set_option maxHeartbeats 400000 in
theorem utf8_piece (s : ByteArray) (k : Nat) (w : World) (h0 : k < s.size) (h1 : s.size ≤ 1099511627776) :
    Calls Try.prog 63 #[.string s, .int .i64 k] w fun e w' => e = .returned (.tuple #[.int .i64 (piece ((nums s).drop k)).1, .int .i64 (piece ((nums s).drop k)).2]) ∧ w = w' := by
  have hd := nums_drop s k h0
  have hc0 : (s[k].toNat : Int) < 256 := by have := s[k].toNat_lt; omega
  generalize hc : (s[k].toNat : Int) = c at *
  have HD := Lib.hid hd
  have HC := Lib.hid hc
  clear hd hc
  have hc1 : 0 ≤ c := by rw [← HC.out]; omega
  have hm := fMore_lo c
  have hbb := fBits_lo c hc1
  have hff := fFrom_lo c
  have htt := fTo_lo c
  by_cases hneg : fMore c < 0
  · have HP := Lib.hid (show piece ((nums s).drop k) = (-1, 1) by rw [HD.out, piece, if_pos hneg])
    go_enter Try.func63, Try.ntmps63
    go_wp2_with fail
    go_step3
    go_wp2_with fail
    rw [HC.out]
    refine (utf8_follow c _ hc1 hc0).mono ?_
    rintro e w' ⟨rfl, rfl⟩
    go_wp2_with fail
    (try rw [Exit.noGoto_ret])
    go_ret2
    exact ⟨by rw [HP.out]; rfl, rfl⟩
  · obtain ⟨M, hM⟩ : ∃ M : Nat, fMore c = M := ⟨(fMore c).toNat, by omega⟩
    have HP := Lib.hid (show piece ((nums s).drop k) = conts M (fBits c) (fFrom c) (fTo c) 1 ((nums s).drop (k + 1)) by rw [HD.out, piece, if_neg hneg, hM]; simp)
    have hM3 : M ≤ 3 := by omega
    have HM := Lib.hid hM
    clear hM
    go_enter Try.func63, Try.ntmps63
    go_wp2_with fail
    go_step3
    go_wp2_with fail
    rw [HC.out]
    refine (utf8_follow c _ hc1 hc0).mono ?_
    rw [HM.out]
    rintro e w' ⟨rfl, rfl⟩
    go_wp2_with fail
    go_step3
    go_wp2_with fail
    go_loop [4, 5, 7, 8] (fun r n fr to => PieceAt s k M r n fr to) (fun _ n _ _ => 5 - (intOf n).toNat)
    case atStart => exact ⟨_, _, _, 1, rfl, rfl, rfl, rfl, by omega, by omega, by omega, by omega, by omega, by omega, by omega, by omega, by omega, by omega, by omega, by rw [HP.out]; rfl⟩
    case round =>
      obtain ⟨ri, fi, ti, m, rfl, rfl, rfl, rfl, hm1, hmM, hr0, hf0, hf1, ht0, ht1, b1, b2, b3, b4, hq⟩ := hrel
      have HQ := Lib.hid hq
      clear hq
      by_cases hM1 : m ≤ M
      · by_cases hs1 : k + m < s.size
        · obtain ⟨d, hdd⟩ : ∃ d : Int, (s[k + m].toNat : Int) = d := ⟨_, rfl⟩
          have hidx := index_str s (k + m) hs1 d (k + m) hdd (by simp)
          have hd2 : (nums s).drop (k + m) = d :: (nums s).drop (k + m + 1) := by rw [nums_drop s (k + m) hs1, hdd]
          have hx0 : 0 ≤ d ∧ d < 256 := by have := s[k + m].toNat_lt; omega
          clear hdd
          by_cases hw : d < fi ∨ ti < d
          · have hq2 : piece ((nums s).drop k) = (-1, m) := by
              rw [← HQ.out, hd2, show M + 1 - m = (M - m) + 1 by omega, conts, if_pos hw]
            have HQ2 := Lib.hid hq2
            clear hd2 hq2
            by_cases hw2 : d < fi
            · go_wp2
              (try rw [Exit.noGoto_ret])
              go_ret2
              exact ⟨by rw [HQ2.out]; rfl, rfl⟩
            · have hw1 : ti < d := by omega
              clear hw
              go_wp2
              (try rw [Exit.noGoto_ret])
              go_ret2
              exact ⟨by rw [HQ2.out]; rfl, rfl⟩
          · have hq2 : conts (M + 1 - (m + 1)) (ri * 64 + d % 64) 128 191 (m + 1) ((nums s).drop (k + (m + 1))) = piece ((nums s).drop k) := by
              rw [← HQ.out, hd2, show M + 1 - m = (M + 1 - (m + 1)) + 1 by omega, conts, if_neg hw]; rfl
            have HQ2 := Lib.hid hq2
            clear hd2 hq2
            have hw1 : fi ≤ d := by omega
            have hw2 : d ≤ ti := by omega
            clear hw
            have o1 : bits .or .i64 (ri * 64) (d % 64) = ri * 64 + d % 64 := i64_or6 _ _ (by omega) (by omega) (by omega) (by omega) (by omega)
            go_wp2
            exact ⟨⟨ri * 64 + d % 64, 128, 191, m + 1, rfl, by go_num, rfl, rfl, by omega, by omega, by omega, by omega, by omega, by omega, by omega, by omega, by omega, by omega, by omega, HQ2.out⟩, by simp [intOf]; omega⟩
        · go_wp2
          go_ret2
          exact ⟨by rw [← HQ.out, nums_drop_end s (k + m) (by omega), show M + 1 - m = (M - m) + 1 by omega, conts]; rfl, rfl⟩
      · go_wp2
        (try rw [Exit.noGoto_ret])
        go_ret2
        exact ⟨by rw [← HQ.out, show M + 1 - m = 0 by omega, conts]; rfl, rfl⟩
def nextR (s : ByteArray) (k : Int) : Int × Nat := if k < 0 ∨ (s.size : Int) ≤ k then (-1, 0) else if (piece ((nums s).drop k.toNat)).1 < 0 then (-1, 0) else piece ((nums s).drop k.toNat)
def pR (p : Int × Nat) : Int := if p.1 < 0 then 0 else p.1
def pOk (p : Int × Nat) : Bool := decide (0 ≤ p.1)
theorem pR_of {p : Int × Nat} (h : 0 ≤ p.1) : pR p = p.1 := if_neg (by omega)
theorem pOk_of {p : Int × Nat} (h : 0 ≤ p.1) : pOk p = true := decide_eq_true h
end Go.Proofs.Ytkdkoondchbekaa
