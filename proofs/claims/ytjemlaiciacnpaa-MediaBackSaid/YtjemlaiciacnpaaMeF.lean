/-
  The walk of a quoted text in the reference.
-/
import Derived.Test.YtjemlaiciacnpaaMeD
import Derived.Test.YtjemlaiciacnpaaMeE
import Derived.Test.YtjemlaiciacnpaaSl
namespace Go.Proofs.Ytjemlaiciacnpaa
open Go.RowKit
set_option maxRecDepth 100000 in
set_option maxHeartbeats 8000000 in
theorem ref06_quoted (s : ByteArray) (k : Nat) (w : World) (hk0 : k < s.size) (hs : s.size ≤ 1000000) :
    Calls Try.prog 37 #[.string s, .int .i64 k] w fun e w' => e = .returned (.tuple #[.string (quoS (quoA [] ((nums s).drop (k + 1)))), .int .i64 (quoE s (quoA [] ((nums s).drop (k + 1)))), .bool (quoA [] ((nums s).drop (k + 1))).isSome]) ∧ Below w.heap.size w w' := by
  obtain ⟨R, hR⟩ : ∃ R, quoA [] ((nums s).drop (k + 1)) = R := ⟨_, rfl⟩
  rw [hR]
  have HR := Lib.hid hR
  clear hR
  go_enter Try.func37, Try.ntmps37
  go_wp2
  go_loopw [7, 8] (fun v i wr => ∃ (j : Nat) (acc : List Int), i = .int .i64 j ∧ k < j ∧ j ≤ s.size ∧ acc.length ≤ j ∧ quoA acc ((nums s).drop j) = R ∧ wr.ownsRow w.heap.size 5 1 v acc.length (acc.map (Value.int .u8)) ∧ Below w.heap.size w wr) (fun _ i _ => s.size - (intOf i).toNat)
  case atStart => exact ⟨k + 1, [], by go_num, by omega, by omega, by simp, HR.out, World.ownsRow_nil _ _ _ _, Below.refl _ _⟩
  case round =>
    obtain ⟨j, acc, rfl, hkj, hj, hacc, hq, hown, hb⟩ := hrel
    by_cases hlt : j < s.size
    · have hdr := nums_drop s j hlt
      obtain ⟨c, hc⟩ : ∃ c, s[j].toNat = c := ⟨_, rfl⟩
      have hc256 : c < 256 := by rw [← hc]; exact byte256 s j hlt
      have hidx := index_str s j hlt (c : Int) j (by rw [hc]) rfl
      rw [hdr, hc] at hq
      clear hdr hc
      by_cases e1 : (c : Int) = 34
      · have q1 : ((c : Int) == 34) = true := by simpa using e1
        rw [e1, quoA_quote] at hq
        have hcv := conv_own wr w.heap.size u7 acc.length acc hown
        have HQ := Lib.hid hq
        clear hq e1 hown
        go_wp2
        go_ret3
        rw [← HQ.out, quoE_drop s acc (j + 1) (by omega)]
        exact ⟨rfl, hb⟩
      · have q1 : ((c : Int) == 34) = false := by simpa using e1
        by_cases e2 : (c : Int) = 92
        · have q2 : ((c : Int) == 92) = true := by simpa using e2
          rw [e2] at hq
          clear e1 e2
          by_cases hl2 : j + 1 < s.size
          · have hdr2 := nums_drop s (j + 1) hl2
            obtain ⟨d, hd⟩ : ∃ d, s[j + 1].toNat = d := ⟨_, rfl⟩
            have hd256 : d < 256 := by rw [← hd]; exact byte256 s (j + 1) hl2
            have hidx2 := index_str s (j + 1) hl2 (d : Int) ((j : Int) + 1) (by rw [hd]) (by omega)
            rw [hdr2, hd] at hq
            clear hdr2 hd
            have hge := decide_eq_false (show ¬ (s.size : Int) ≤ (j : Int) + 1 by omega)
            cases he : isEsc (d : Int) with
            | false =>
              rw [quoA_esc_no he] at hq
              have HQ := Lib.hid hq
              have he' := of_decide_eq_false he
              have p1 : ((d : Int) != 9) = true := by simp; omega
              have HF : R = none := by rw [← HQ.out]
              subst HF
              by_cases hlo : (d : Int) < 32
              · have p2 := decide_eq_true hlo
                clear hq he he' hown
                go_wp2
                go_ret3
                exact ⟨rfl, hb⟩
              · have p2 := decide_eq_false hlo
                have p3 := decide_eq_true (show (126 : Int) < (d : Int) by omega)
                clear hq he he' hown
                go_wp2
                go_ret3
                exact ⟨rfl, hb⟩
            | true =>
              rw [quoA_esc he] at hq
              have HQ := Lib.hid hq
              have he' := of_decide_eq_true he
              obtain ⟨v', w3, hr, ho1, hb3, _⟩ := app_u8 wr w.heap.size u7 acc.length acc hown d (by omega) hb.size
              have HA := Lib.hid hr
              clear hq he hown hr
              by_cases h9 : (d : Int) = 9
              · have p1 : ((d : Int) != 9) = false := by simp [h9]
                clear he' h9
                go_wp2_with (at_builtin; refine wpList_append_run rfl _ _ _ _ rfl _ _ rfl rfl _ _ HA.out ?_)
                exact ⟨⟨j + 2, acc ++ [(d : Int)], by go_num, by omega, by omega, by simp; omega, HQ.out, by simpa using ho1, hb.trans hb3⟩, by simp [intOf]; omega⟩
              · have p1 : ((d : Int) != 9) = true := by simpa using h9
                have p2 := decide_eq_false (show ¬ (d : Int) < 32 by omega)
                have p3 := decide_eq_false (show ¬ (126 : Int) < (d : Int) by omega)
                clear he' h9
                go_wp2_with (at_builtin; refine wpList_append_run rfl _ _ _ _ rfl _ _ rfl rfl _ _ HA.out ?_)
                exact ⟨⟨j + 2, acc ++ [(d : Int)], by go_num, by omega, by omega, by simp; omega, HQ.out, by simpa using ho1, hb.trans hb3⟩, by simp [intOf]; omega⟩
          · have hge := decide_eq_true (show (s.size : Int) ≤ (j : Int) + 1 by omega)
            rw [nums_drop_end s (j + 1) (by omega), quoA_esc_end] at hq
            subst hq
            clear hown
            go_wp2
            go_ret3
            exact ⟨rfl, hb⟩
        · have q2 : ((c : Int) == 92) = false := by simpa using e2
          cases hi : isQt (c : Int) with
          | false =>
            rw [quoA_out hi e1 e2] at hq
            subst hq
            have HI := Lib.hid hi
            clear hi hown e1 e2
            go_wp2_with (go_at_call 33; refine (ref06_within _ _).mono ?_; rw [HI.out]; rintro e w' ⟨rfl, rfl⟩)
            go_ret3
            exact ⟨rfl, hb⟩
          | true =>
            rw [quoA_in hi] at hq
            have HQ := Lib.hid hq
            have HI := Lib.hid hi
            obtain ⟨v', w3, hr, ho1, hb3, _⟩ := app_u8 wr w.heap.size u7 acc.length acc hown c (by omega) hb.size
            have HA := Lib.hid hr
            clear hq hi hown hr e1 e2
            go_wp2_with (first | (at_builtin; refine wpList_append_run rfl _ _ _ _ rfl _ _ rfl rfl _ _ HA.out ?_) | (go_at_call 33; refine (ref06_within _ _).mono ?_; rw [HI.out]; rintro e w' ⟨rfl, rfl⟩))
            exact ⟨⟨j + 1, acc ++ [(c : Int)], by go_num, by omega, by omega, by simp; omega, HQ.out, by simpa using ho1, hb.trans hb3⟩, by simp [intOf]; omega⟩
    · rw [nums_drop_end s j (by omega), quoA_nil] at hq
      subst hq
      clear hown
      go_wp2
      go_ret3
      exact ⟨rfl, hb⟩
end Go.Proofs.Ytjemlaiciacnpaa
