/-
  The walks of utf8: follow, piece, Next, and the reference's lead, part, Next: what stands at a byte.
-/
import Derived.Test.YtkdkoondchbekaaDoorU8B
namespace Go.Proofs.YtkdkoondchbekaaDoor
open Go.RowKit
attribute [local go_sem] i64_and63 i64_and31 i64_and15 i64_and7
set_option maxHeartbeats 400000 in
theorem utf8_follow (c : Int) (w : World) (h0 : 0 ≤ c) (h1 : c < 256) :
    Calls Tryd.prog 68 #[.int .u8 c] w fun e w' => e = .returned (.tuple #[.int .i64 (fMore c), .int .i64 (fBits c), .int .u8 (fFrom c), .int .u8 (fTo c)]) ∧ w = w' := by
  go_enter Tryd.func68, Tryd.ntmps68
  go_wp2
  all_goals
    go_light
    (try simp only [beq_iff_eq, beq_eq_false_iff_ne] at *)
    refine bodyPost_ret (results_tmp4 rfl _ _ _) rfl ?_
    refine ⟨ret4 (v_int ?_) (v_int ?_) (v_int ?_) (v_int ?_), rfl⟩
    · unfold fMore; split <;> (try split) <;> (try split) <;> (try split) <;> first | rfl | omega
    · unfold fBits; split <;> (try split) <;> (try split) <;> (try split) <;> first | rfl | omega
    · unfold fFrom; split <;> (try split) <;> first | rfl | omega
    · unfold fTo; split <;> (try split) <;> first | rfl | omega
theorem index_str (s : ByteArray) (k : Nat) (h : k < s.size) (d i : Int) (hd : (s[k].toNat : Int) = d) (hi : i = k) (w : World) :
    (Instr.index 9 (.string s) (.int .i64 i)).run Tryd.prog w = .ok (.int .u8 d) w := by
  subst hi
  rw [run_index_string w _ _ _ _ Tryd.underlying9]
  simp [h, hd]
/-- the loop's relation: what is read so far leads to what the whole piece is. -/
def PieceAt (s : ByteArray) (k : Nat) (M : Nat) (r n fr to : Value) : Prop :=
  ∃ (ri fi ti : Int) (m : Nat), r = .int .i64 ri ∧ n = .int .i64 m ∧ fr = .int .u8 fi ∧ to = .int .u8 ti ∧ 1 ≤ m ∧ m ≤ M + 1 ∧ 0 ≤ ri ∧ 0 ≤ fi ∧ fi < 256 ∧ 0 ≤ ti ∧ ti < 256 ∧ (m = 1 → ri < 128) ∧ (m = 2 → ri < 8192) ∧ (m = 3 → ri < 524288) ∧ (m = 4 → ri < 33554432) ∧
    conts (M + 1 - m) ri fi ti m ((nums s).drop (k + m)) = piece ((nums s).drop k)
set_option maxHeartbeats 400000 in
theorem utf8_piece (s : ByteArray) (k : Nat) (w : World) (h0 : k < s.size) (h1 : s.size ≤ 1099511627776) :
    Calls Tryd.prog 58 #[.string s, .int .i64 k] w fun e w' => e = .returned (.tuple #[.int .i64 (piece ((nums s).drop k)).1, .int .i64 (piece ((nums s).drop k)).2]) ∧ w = w' := by
  have hd := nums_drop s k h0
  have hc0 : (s[k].toNat : Int) < 256 := by have := s[k].toNat_lt; omega
  generalize hc : (s[k].toNat : Int) = c at *
  have HD := Lib.hid hd
  have HC := Lib.hid hc
  clear hd hc
  have hc1 : 0 ≤ c := by rw [← HC.out]; omega
  have hm := fMore_lo c
  have hbb := fBits_lo c hc1
  have hff := fFrom_lo c
  have htt := fTo_lo c
  by_cases hneg : fMore c < 0
  · have HP := Lib.hid (show piece ((nums s).drop k) = (-1, 1) by rw [HD.out, piece, if_pos hneg])
    go_enter Tryd.func58, Tryd.ntmps58
    go_wp2_with fail
    go_step3
    go_wp2_with fail
    rw [HC.out]
    refine (utf8_follow c _ hc1 hc0).mono ?_
    rintro e w' ⟨rfl, rfl⟩
    go_wp2_with fail
    (try rw [Exit.noGoto_ret])
    go_ret2
    exact ⟨by rw [HP.out]; rfl, rfl⟩
  · obtain ⟨M, hM⟩ : ∃ M : Nat, fMore c = M := ⟨(fMore c).toNat, by omega⟩
    have HP := Lib.hid (show piece ((nums s).drop k) = conts M (fBits c) (fFrom c) (fTo c) 1 ((nums s).drop (k + 1)) by rw [HD.out, piece, if_neg hneg, hM]; simp)
    have hM3 : M ≤ 3 := by omega
    have HM := Lib.hid hM
    clear hM
    go_enter Tryd.func58, Tryd.ntmps58
    go_wp2_with fail
    go_step3
    go_wp2_with fail
    rw [HC.out]
    refine (utf8_follow c _ hc1 hc0).mono ?_
    rw [HM.out]
    rintro e w' ⟨rfl, rfl⟩
    go_wp2_with fail
    go_step3
    go_wp2_with fail
    go_loop [4, 5, 7, 8] (fun r n fr to => PieceAt s k M r n fr to) (fun _ n _ _ => 5 - (intOf n).toNat)
    case atStart => exact ⟨_, _, _, 1, rfl, rfl, rfl, rfl, by omega, by omega, by omega, by omega, by omega, by omega, by omega, by omega, by omega, by omega, by omega, by rw [HP.out]; rfl⟩
    case round =>
      obtain ⟨ri, fi, ti, m, rfl, rfl, rfl, rfl, hm1, hmM, hr0, hf0, hf1, ht0, ht1, b1, b2, b3, b4, hq⟩ := hrel
      have HQ := Lib.hid hq
      clear hq
      by_cases hM1 : m ≤ M
      · by_cases hs1 : k + m < s.size
        · obtain ⟨d, hdd⟩ : ∃ d : Int, (s[k + m].toNat : Int) = d := ⟨_, rfl⟩
          have hidx := index_str s (k + m) hs1 d (k + m) hdd (by simp)
          have hd2 : (nums s).drop (k + m) = d :: (nums s).drop (k + m + 1) := by rw [nums_drop s (k + m) hs1, hdd]
          have hx0 : 0 ≤ d ∧ d < 256 := by have := s[k + m].toNat_lt; omega
          clear hdd
          by_cases hw : d < fi ∨ ti < d
          · have hq2 : piece ((nums s).drop k) = (-1, m) := by
              rw [← HQ.out, hd2, show M + 1 - m = (M - m) + 1 by omega, conts, if_pos hw]
            have HQ2 := Lib.hid hq2
            clear hd2 hq2
            by_cases hw2 : d < fi
            · go_wp2
              (try rw [Exit.noGoto_ret])
              go_ret2
              exact ⟨by rw [HQ2.out]; rfl, rfl⟩
            · have hw1 : ti < d := by omega
              clear hw
              go_wp2
              (try rw [Exit.noGoto_ret])
              go_ret2
              exact ⟨by rw [HQ2.out]; rfl, rfl⟩
          · have hq2 : conts (M + 1 - (m + 1)) (ri * 64 + d % 64) 128 191 (m + 1) ((nums s).drop (k + (m + 1))) = piece ((nums s).drop k) := by
              rw [← HQ.out, hd2, show M + 1 - m = (M + 1 - (m + 1)) + 1 by omega, conts, if_neg hw]; rfl
            have HQ2 := Lib.hid hq2
            clear hd2 hq2
            have hw1 : fi ≤ d := by omega
            have hw2 : d ≤ ti := by omega
            clear hw
            have o1 : bits .or .i64 (ri * 64) (d % 64) = ri * 64 + d % 64 := i64_or6 _ _ (by omega) (by omega) (by omega) (by omega) (by omega)
            go_wp2
            exact ⟨⟨ri * 64 + d % 64, 128, 191, m + 1, rfl, by go_num, rfl, rfl, by omega, by omega, by omega, by omega, by omega, by omega, by omega, by omega, by omega, by omega, by omega, HQ2.out⟩, by simp [intOf]; omega⟩
        · go_wp2
          go_ret2
          exact ⟨by rw [← HQ.out, nums_drop_end s (k + m) (by omega), show M + 1 - m = (M - m) + 1 by omega, conts]; rfl, rfl⟩
      · go_wp2
        (try rw [Exit.noGoto_ret])
        go_ret2
        exact ⟨by rw [← HQ.out, show M + 1 - m = 0 by omega, conts]; rfl, rfl⟩
def nextR (s : ByteArray) (k : Int) : Int × Nat := if k < 0 ∨ (s.size : Int) ≤ k then (-1, 0) else if (piece ((nums s).drop k.toNat)).1 < 0 then (-1, 0) else piece ((nums s).drop k.toNat)
def pR (p : Int × Nat) : Int := if p.1 < 0 then 0 else p.1
def pOk (p : Int × Nat) : Bool := decide (0 ≤ p.1)
theorem pR_of {p : Int × Nat} (h : 0 ≤ p.1) : pR p = p.1 := if_neg (by omega)
theorem pOk_of {p : Int × Nat} (h : 0 ≤ p.1) : pOk p = true := decide_eq_true h
set_option maxHeartbeats 400000 in
theorem utf8_Next (s : ByteArray) (k : Int) (w : World) (h1 : s.size ≤ 1099511627776) :
    Calls Tryd.prog 47 #[.string s, .int .i64 k] w fun e w' => e = .returned (.tuple #[.int .i64 (pR (nextR s k)), .int .i64 (nextR s k).2, .bool (pOk (nextR s k))]) ∧ w = w' := by
  by_cases h0 : k < 0 ∨ (s.size : Int) ≤ k
  · have HN := Lib.hid (show nextR s k = (-1, 0) by unfold nextR; rw [if_pos h0])
    go_enter Tryd.func47, Tryd.ntmps47
    go_wp2_with fail
    all_goals
      go_ret3
      exact ⟨by rw [HN.out]; rfl, rfl⟩
  · obtain ⟨i, rfl⟩ := Int.eq_ofNat_of_zero_le (show 0 ≤ k by omega)
    have hi : i < s.size := by omega
    clear h0
    have hn := nums_drop s i hi
    by_cases hp : (piece ((nums s).drop i)).1 < 0
    · have HN := Lib.hid (show nextR s i = (-1, 0) by unfold nextR; rw [if_neg (by omega), Int.toNat_natCast, if_pos hp])
      clear hn
      generalize hg : piece ((nums s).drop i) = g at *
      have HG := Lib.hid hg
      clear hg
      go_enter Tryd.func47, Tryd.ntmps47
      go_wp2_with (go_at_call 58; refine (utf8_piece s i _ hi h1).mono ?_; rw [HG.out]; rintro e w' ⟨rfl, rfl⟩)
      go_ret3
      exact ⟨by rw [HN.out]; rfl, rfl⟩
    · have HN := Lib.hid (show nextR s i = piece ((nums s).drop i) by unfold nextR; rw [if_neg (by omega), Int.toNat_natCast, if_neg hp])
      clear hn
      generalize hg : piece ((nums s).drop i) = g at *
      have HG := Lib.hid hg
      clear hg
      go_enter Tryd.func47, Tryd.ntmps47
      go_wp2_with (go_at_call 58; refine (utf8_piece s i _ hi h1).mono ?_; rw [HG.out]; rintro e w' ⟨rfl, rfl⟩)
      go_ret3
      exact ⟨by rw [HN.out, pR_of hp, pOk_of hp]; rfl, rfl⟩
theorem fBits_1 {c : Int} (h : fMore c = 1) : fBits c = c % 32 := by revert h; unfold fMore fBits; (repeat' split) <;> intro h <;> first | omega | rfl
theorem fBits_2 {c : Int} (h : fMore c = 2) : fBits c = c % 16 := by revert h; unfold fMore fBits; (repeat' split) <;> intro h <;> first | omega | rfl
theorem fBits_3 {c : Int} (h : fMore c = 3) : fBits c = c % 8 := by revert h; unfold fMore fBits; (repeat' split) <;> intro h <;> first | omega | rfl
theorem fBits_0 {c : Int} (h : fMore c = 0) (h0 : 0 ≤ c) : fBits c = c % 128 := by revert h; unfold fMore fBits; (repeat' split) <;> intro h <;> omega
def lFrom (c : Int) : Int := if fMore c < 1 then 0 else fFrom c
def lTo (c : Int) : Int := if fMore c < 1 then 0 else fTo c
set_option maxHeartbeats 400000 in
theorem ref02_lead (c : Int) (w : World) (h0 : 0 ≤ c) (h1 : c < 256) :
    Calls Tryd.prog 59 #[.int .u8 c] w fun e w' => e = .returned (.tuple #[.int .i64 (fMore c), .int .u8 (lFrom c), .int .u8 (lTo c)]) ∧ w = w' := by
  go_enter Tryd.func59, Tryd.ntmps59
  go_wp2
  all_goals
    go_light
    (try simp only [beq_iff_eq, beq_eq_false_iff_ne] at *)
    refine bodyPost_ret (results_tmp3 rfl _ _ _) rfl ?_
    refine ⟨ret3 (v_int ?_) (v_int ?_) (v_int ?_), rfl⟩
    · unfold fMore; (repeat' split) <;> first | rfl | omega
    · unfold lFrom fFrom fMore; (repeat' split) <;> first | rfl | omega
    · unfold lTo fTo fMore; (repeat' split) <;> first | rfl | omega
set_option maxHeartbeats 1000000 in
theorem ref02_part (s : ByteArray) (k : Nat) (w : World) (h0 : k < s.size) (h1 : s.size ≤ 1099511627776) :
    Calls Tryd.prog 49 #[.string s, .int .i64 k] w fun e w' => e = .returned (.tuple #[.int .i64 (pR (piece ((nums s).drop k))), .int .i64 (piece ((nums s).drop k)).2, .bool (pOk (piece ((nums s).drop k)))]) ∧ w = w' := by
  have hd := nums_drop s k h0
  have hc0 : (s[k].toNat : Int) < 256 := by have := s[k].toNat_lt; omega
  obtain ⟨c, hc⟩ : ∃ c : Int, (s[k].toNat : Int) = c := ⟨_, rfl⟩
  have hidx := index_str s k h0 c k hc rfl
  rw [hc] at hd hc0
  have hc1 : 0 ≤ c := by omega
  clear hc
  have hm := fMore_lo c
  have hbb := fBits_lo c hc1
  by_cases hneg : fMore c < 0
  · have HP := Lib.hid (show piece ((nums s).drop k) = (-1, 1) by rw [hd, piece, if_pos hneg])
    clear hd
    go_enter Tryd.func49, Tryd.ntmps49
    go_wp2_with (go_at_call 59; refine (ref02_lead c _ hc1 hc0).mono ?_; rintro e w' ⟨rfl, rfl⟩)
    go_ret3
    exact ⟨by rw [HP.out]; rfl, rfl⟩
  · obtain ⟨M, hM⟩ : ∃ M : Nat, fMore c = M := ⟨(fMore c).toNat, by omega⟩
    have hM3 : M ≤ 3 := by omega
    have hlt : 0 ≤ lFrom c ∧ lFrom c < 256 ∧ 0 ≤ lTo c ∧ lTo c < 256 := by have := fFrom_lo c; have := fTo_lo c; unfold lFrom lTo; split <;> omega
    have hp : piece ((nums s).drop k) = conts M (fBits c) (lFrom c) (lTo c) 1 ((nums s).drop (k + 1)) := by
      rw [hd, piece, if_neg hneg, hM]
      by_cases h : M = 0
      · subst h; simp [conts]
      · unfold lFrom lTo; rw [if_neg (by omega), if_neg (by omega)]; simp
    have hbits : bits .and .i64 c (if M = 0 then 127 else if M = 1 then 31 else if M = 2 then 15 else 7) = fBits c := by
      rcases (show M = 0 ∨ M = 1 ∨ M = 2 ∨ M = 3 by omega) with rfl | rfl | rfl | rfl
      · rw [fBits_0 hM hc1]; exact i64_and_mask 7 (by decide) c
      · rw [fBits_1 hM]; exact i64_and31 c
      · rw [fBits_2 hM]; exact i64_and15 c
      · rw [fBits_3 hM]; exact i64_and7 c
    have HP := Lib.hid hp
    have HM := Lib.hid hM
    clear hM hd hp
    rcases (show M = 0 ∨ M = 1 ∨ M = 2 ∨ M = 3 by omega) with rfl | rfl | rfl | rfl
    · simp only [reduceIte, Nat.reduceEqDiff] at hbits
      go_enter Tryd.func49, Tryd.ntmps49
      go_wp2_with fail
      refine (ref02_lead c _ hc1 hc0).mono ?_
      rw [HM.out]
      rintro e w' ⟨rfl, rfl⟩
      go_wp2_with fail
      go_loop [11, 12, 8, 9] (fun r n fr to => PieceAt s k 0 r n fr to) (fun _ n _ _ => 5 - (intOf n).toNat)
      case atStart => exact ⟨_, _, _, 1, rfl, rfl, rfl, rfl, by omega, by omega, by omega, by omega, by omega, by omega, by omega, by omega, by omega, by omega, by omega, by rw [HP.out]⟩
      case round =>
        obtain ⟨ri, fi, ti, m, rfl, rfl, rfl, rfl, hm1, hmM, hr0, hf0, hf1, ht0, ht1, b1, b2, b3, b4, hq⟩ := hrel
        have HQ := Lib.hid hq
        clear hq hidx
        obtain rfl : m = 1 := by omega
        have hq2 : piece ((nums s).drop k) = (ri, 0 + 1) := by
          rw [← HQ.out, conts]
        have HQ2 := Lib.hid hq2
        clear hq2
        go_wp2
        go_ret3
        exact ⟨by rw [HQ2.out, pR_of (p := (ri, _)) hr0, pOk_of (p := (ri, _)) hr0]; rfl, rfl⟩
    · simp only [reduceIte, Nat.reduceEqDiff] at hbits
      go_enter Tryd.func49, Tryd.ntmps49
      go_wp2_with fail
      refine (ref02_lead c _ hc1 hc0).mono ?_
      rw [HM.out]
      rintro e w' ⟨rfl, rfl⟩
      go_wp2_with fail
      go_loop [11, 12, 8, 9] (fun r n fr to => PieceAt s k 1 r n fr to) (fun _ n _ _ => 5 - (intOf n).toNat)
      case atStart => exact ⟨_, _, _, 1, rfl, rfl, rfl, rfl, by omega, by omega, by omega, by omega, by omega, by omega, by omega, by omega, by omega, by omega, by omega, by rw [HP.out]⟩
      case round =>
        obtain ⟨ri, fi, ti, m, rfl, rfl, rfl, rfl, hm1, hmM, hr0, hf0, hf1, ht0, ht1, b1, b2, b3, b4, hq⟩ := hrel
        have HQ := Lib.hid hq
        clear hq hidx
        by_cases hM1 : m ≤ 1
        · by_cases hs1 : k + m < s.size
          · obtain ⟨d, hdd⟩ : ∃ d : Int, (s[k + m].toNat : Int) = d := ⟨_, rfl⟩
            have hidx := index_str s (k + m) hs1 d (k + m) hdd (by simp)
            have hd2 : (nums s).drop (k + m) = d :: (nums s).drop (k + m + 1) := by rw [nums_drop s (k + m) hs1, hdd]
            have hx0 : 0 ≤ d ∧ d < 256 := by have := s[k + m].toNat_lt; omega
            clear hdd
            by_cases hw : d < fi ∨ ti < d
            · have hq2 : piece ((nums s).drop k) = (-1, m) := by
                rw [← HQ.out, hd2, show 1 + 1 - m = (1 - m) + 1 by omega, conts, if_pos hw]
              have HQ2 := Lib.hid hq2
              clear hd2 hq2
              by_cases hw2 : d < fi
              · go_wp2
                go_ret3
                exact ⟨by rw [HQ2.out]; rfl, rfl⟩
              · have hw1 : ti < d := by omega
                clear hw
                go_wp2
                go_ret3
                exact ⟨by rw [HQ2.out]; rfl, rfl⟩
            · have hq2 : conts (1 + 1 - (m + 1)) (ri * 64 + d % 64) 128 191 (m + 1) ((nums s).drop (k + (m + 1))) = piece ((nums s).drop k) := by
                rw [← HQ.out, hd2, show 1 + 1 - m = (1 + 1 - (m + 1)) + 1 by omega, conts, if_neg hw]; rfl
              have HQ2 := Lib.hid hq2
              clear hd2 hq2
              have hw1 : fi ≤ d := by omega
              have hw2 : d ≤ ti := by omega
              clear hw
              have o1 : bits .or .i64 (ri * 64) (d % 64) = ri * 64 + d % 64 := i64_or6 _ _ (by omega) (by omega) (by omega) (by omega) (by omega)
              go_wp2
              exact ⟨⟨ri * 64 + d % 64, 128, 191, m + 1, rfl, by go_num, rfl, rfl, by omega, by omega, by omega, by omega, by omega, by omega, by omega, by omega, by omega, by omega, by omega, HQ2.out⟩, by simp [intOf]; omega⟩
          · have hq2 : piece ((nums s).drop k) = (-1, m) := by
              rw [← HQ.out, nums_drop_end s (k + m) (by omega), show 1 + 1 - m = (1 - m) + 1 by omega, conts]
            have HQ2 := Lib.hid hq2
            clear hq2
            go_wp2
            go_ret3
            exact ⟨by rw [HQ2.out]; rfl, rfl⟩
        · have hq2 : piece ((nums s).drop k) = (ri, 1 + 1) := by
            rw [← HQ.out, show m = 1 + 1 by omega, show 1 + 1 - (1 + 1) = 0 by omega, conts]
          have HQ2 := Lib.hid hq2
          clear hq2
          go_wp2
          go_ret3
          exact ⟨by rw [HQ2.out, pR_of (p := (ri, _)) hr0, pOk_of (p := (ri, _)) hr0]; rfl, rfl⟩
    · simp only [reduceIte, Nat.reduceEqDiff] at hbits
      go_enter Tryd.func49, Tryd.ntmps49
      go_wp2_with fail
      refine (ref02_lead c _ hc1 hc0).mono ?_
      rw [HM.out]
      rintro e w' ⟨rfl, rfl⟩
      go_wp2_with fail
      go_loop [11, 12, 8, 9] (fun r n fr to => PieceAt s k 2 r n fr to) (fun _ n _ _ => 5 - (intOf n).toNat)
      case atStart => exact ⟨_, _, _, 1, rfl, rfl, rfl, rfl, by omega, by omega, by omega, by omega, by omega, by omega, by omega, by omega, by omega, by omega, by omega, by rw [HP.out]⟩
      case round =>
        obtain ⟨ri, fi, ti, m, rfl, rfl, rfl, rfl, hm1, hmM, hr0, hf0, hf1, ht0, ht1, b1, b2, b3, b4, hq⟩ := hrel
        have HQ := Lib.hid hq
        clear hq hidx
        by_cases hM1 : m ≤ 2
        · by_cases hs1 : k + m < s.size
          · obtain ⟨d, hdd⟩ : ∃ d : Int, (s[k + m].toNat : Int) = d := ⟨_, rfl⟩
            have hidx := index_str s (k + m) hs1 d (k + m) hdd (by simp)
            have hd2 : (nums s).drop (k + m) = d :: (nums s).drop (k + m + 1) := by rw [nums_drop s (k + m) hs1, hdd]
            have hx0 : 0 ≤ d ∧ d < 256 := by have := s[k + m].toNat_lt; omega
            clear hdd
            by_cases hw : d < fi ∨ ti < d
            · have hq2 : piece ((nums s).drop k) = (-1, m) := by
                rw [← HQ.out, hd2, show 2 + 1 - m = (2 - m) + 1 by omega, conts, if_pos hw]
              have HQ2 := Lib.hid hq2
              clear hd2 hq2
              by_cases hw2 : d < fi
              · go_wp2
                go_ret3
                exact ⟨by rw [HQ2.out]; rfl, rfl⟩
              · have hw1 : ti < d := by omega
                clear hw
                go_wp2
                go_ret3
                exact ⟨by rw [HQ2.out]; rfl, rfl⟩
            · have hq2 : conts (2 + 1 - (m + 1)) (ri * 64 + d % 64) 128 191 (m + 1) ((nums s).drop (k + (m + 1))) = piece ((nums s).drop k) := by
                rw [← HQ.out, hd2, show 2 + 1 - m = (2 + 1 - (m + 1)) + 1 by omega, conts, if_neg hw]; rfl
              have HQ2 := Lib.hid hq2
              clear hd2 hq2
              have hw1 : fi ≤ d := by omega
              have hw2 : d ≤ ti := by omega
              clear hw
              have o1 : bits .or .i64 (ri * 64) (d % 64) = ri * 64 + d % 64 := i64_or6 _ _ (by omega) (by omega) (by omega) (by omega) (by omega)
              go_wp2
              exact ⟨⟨ri * 64 + d % 64, 128, 191, m + 1, rfl, by go_num, rfl, rfl, by omega, by omega, by omega, by omega, by omega, by omega, by omega, by omega, by omega, by omega, by omega, HQ2.out⟩, by simp [intOf]; omega⟩
          · have hq2 : piece ((nums s).drop k) = (-1, m) := by
              rw [← HQ.out, nums_drop_end s (k + m) (by omega), show 2 + 1 - m = (2 - m) + 1 by omega, conts]
            have HQ2 := Lib.hid hq2
            clear hq2
            go_wp2
            go_ret3
            exact ⟨by rw [HQ2.out]; rfl, rfl⟩
        · have hq2 : piece ((nums s).drop k) = (ri, 2 + 1) := by
            rw [← HQ.out, show m = 2 + 1 by omega, show 2 + 1 - (2 + 1) = 0 by omega, conts]
          have HQ2 := Lib.hid hq2
          clear hq2
          go_wp2
          go_ret3
          exact ⟨by rw [HQ2.out, pR_of (p := (ri, _)) hr0, pOk_of (p := (ri, _)) hr0]; rfl, rfl⟩
    · simp only [reduceIte, Nat.reduceEqDiff] at hbits
      go_enter Tryd.func49, Tryd.ntmps49
      go_wp2_with fail
      refine (ref02_lead c _ hc1 hc0).mono ?_
      rw [HM.out]
      rintro e w' ⟨rfl, rfl⟩
      go_wp2_with fail
      go_loop [11, 12, 8, 9] (fun r n fr to => PieceAt s k 3 r n fr to) (fun _ n _ _ => 5 - (intOf n).toNat)
      case atStart => exact ⟨_, _, _, 1, rfl, rfl, rfl, rfl, by omega, by omega, by omega, by omega, by omega, by omega, by omega, by omega, by omega, by omega, by omega, by rw [HP.out]⟩
      case round =>
        obtain ⟨ri, fi, ti, m, rfl, rfl, rfl, rfl, hm1, hmM, hr0, hf0, hf1, ht0, ht1, b1, b2, b3, b4, hq⟩ := hrel
        have HQ := Lib.hid hq
        clear hq hidx
        by_cases hM1 : m ≤ 3
        · by_cases hs1 : k + m < s.size
          · obtain ⟨d, hdd⟩ : ∃ d : Int, (s[k + m].toNat : Int) = d := ⟨_, rfl⟩
            have hidx := index_str s (k + m) hs1 d (k + m) hdd (by simp)
            have hd2 : (nums s).drop (k + m) = d :: (nums s).drop (k + m + 1) := by rw [nums_drop s (k + m) hs1, hdd]
            have hx0 : 0 ≤ d ∧ d < 256 := by have := s[k + m].toNat_lt; omega
            clear hdd
            by_cases hw : d < fi ∨ ti < d
            · have hq2 : piece ((nums s).drop k) = (-1, m) := by
                rw [← HQ.out, hd2, show 3 + 1 - m = (3 - m) + 1 by omega, conts, if_pos hw]
              have HQ2 := Lib.hid hq2
              clear hd2 hq2
              by_cases hw2 : d < fi
              · go_wp2
                go_ret3
                exact ⟨by rw [HQ2.out]; rfl, rfl⟩
              · have hw1 : ti < d := by omega
                clear hw
                go_wp2
                go_ret3
                exact ⟨by rw [HQ2.out]; rfl, rfl⟩
            · have hq2 : conts (3 + 1 - (m + 1)) (ri * 64 + d % 64) 128 191 (m + 1) ((nums s).drop (k + (m + 1))) = piece ((nums s).drop k) := by
                rw [← HQ.out, hd2, show 3 + 1 - m = (3 + 1 - (m + 1)) + 1 by omega, conts, if_neg hw]; rfl
              have HQ2 := Lib.hid hq2
              clear hd2 hq2
              have hw1 : fi ≤ d := by omega
              have hw2 : d ≤ ti := by omega
              clear hw
              have o1 : bits .or .i64 (ri * 64) (d % 64) = ri * 64 + d % 64 := i64_or6 _ _ (by omega) (by omega) (by omega) (by omega) (by omega)
              go_wp2
              exact ⟨⟨ri * 64 + d % 64, 128, 191, m + 1, rfl, by go_num, rfl, rfl, by omega, by omega, by omega, by omega, by omega, by omega, by omega, by omega, by omega, by omega, by omega, HQ2.out⟩, by simp [intOf]; omega⟩
          · have hq2 : piece ((nums s).drop k) = (-1, m) := by
              rw [← HQ.out, nums_drop_end s (k + m) (by omega), show 3 + 1 - m = (3 - m) + 1 by omega, conts]
            have HQ2 := Lib.hid hq2
            clear hq2
            go_wp2
            go_ret3
            exact ⟨by rw [HQ2.out]; rfl, rfl⟩
        · have hq2 : piece ((nums s).drop k) = (ri, 3 + 1) := by
            rw [← HQ.out, show m = 3 + 1 by omega, show 3 + 1 - (3 + 1) = 0 by omega, conts]
          have HQ2 := Lib.hid hq2
          clear hq2
          go_wp2
          go_ret3
          exact ⟨by rw [HQ2.out, pR_of (p := (ri, _)) hr0, pOk_of (p := (ri, _)) hr0]; rfl, rfl⟩
end Go.Proofs.YtkdkoondchbekaaDoor
