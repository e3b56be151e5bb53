/-
  The walks of the reference's blanks and token; media's scanner: run, token, blanks, is.
-/
import Derived.Test.YtjemlaiciacnpaaMeB
import Derived.Test.YtjemlaiciacnpaaMeQ
import Derived.BigQuiet
namespace Go.Proofs.Ytjemlaiciacnpaa
open Go.RowKit
set_option maxRecDepth 100000 in
set_option maxHeartbeats 2000000 in
theorem ref06_blanks (s : ByteArray) (k : Nat) (w : World) (hk0 : k ≤ s.size) (hs : s.size ≤ 1099511627776) :
    Calls Try.prog 25 #[.string s, .int .i64 k] w fun e w' => e = .returned (.int .i64 ((k + spanN isBl s k : Nat) : Int)) ∧ w = w' := by
  obtain ⟨E, hE⟩ : ∃ E, k + spanN isBl s k = E := ⟨_, rfl⟩
  rw [hE]
  have HE := Lib.hid hE
  clear hE
  go_enter Try.func25, Try.ntmps25
  go_wp2
  go_loop [1] (fun i => ∃ j : Nat, i = .int .i64 j ∧ j ≤ s.size ∧ j + spanN isBl s j = E) (fun i => s.size - (intOf i).toNat)
  case atStart => exact ⟨k, rfl, hk0, HE.out⟩
  case round =>
    obtain ⟨j, rfl, hj, hsp⟩ := hrel
    by_cases hlt : j < s.size
    · obtain ⟨c, hc⟩ : ∃ c, s[j].toNat = c := ⟨_, rfl⟩
      have hidx := index_str s j hlt (c : Int) j (by rw [hc]) rfl
      cases hb : isBl (c : Int) with
      | false =>
        rw [spanN_no hlt (by rw [hc]; exact hb)] at hsp
        obtain rfl : j = E := by omega
        have q1 : ((c : Int) == 32) = false := by unfold isBl at hb; simp at hb ⊢; omega
        have q2 : ((c : Int) == 9) = false := by unfold isBl at hb; simp at hb ⊢; omega
        clear hb hc
        go_wp2
        go_ret
        exact ⟨rfl, rfl⟩
      | true =>
        rw [spanN_yes hlt (by rw [hc]; exact hb)] at hsp
        have HS := Lib.hid hsp
        by_cases e1 : (c : Int) = 32
        · have q1 : ((c : Int) == 32) = true := by simpa using e1
          clear hb hc e1 hsp
          go_wp2
          exact ⟨⟨j + 1, by go_num, by omega, by have := HS.out; omega⟩, by simp [intOf]; omega⟩
        · have q1 : ((c : Int) == 32) = false := by simpa using e1
          have q2 : ((c : Int) == 9) = true := by unfold isBl at hb; simp at hb ⊢; omega
          clear hb hc e1 hsp
          go_wp2
          exact ⟨⟨j + 1, by go_num, by omega, by have := HS.out; omega⟩, by simp [intOf]; omega⟩
    · rw [spanN_end (by omega)] at hsp
      obtain rfl : j = E := by omega
      go_wp2
      go_ret
      exact ⟨rfl, rfl⟩
set_option maxRecDepth 100000 in
set_option maxHeartbeats 2000000 in
theorem ref06_token (s : ByteArray) (k : Nat) (w : World) (hk0 : k ≤ s.size) (hs : s.size ≤ 1099511627776) :
    Calls Try.prog 26 #[.string s, .int .i64 k] w fun e w' => e = .returned (.int .i64 ((k + spanN isTok s k : Nat) : Int)) ∧ w = w' := by
  obtain ⟨E, hE⟩ : ∃ E, k + spanN isTok s k = E := ⟨_, rfl⟩
  rw [hE]
  have HE := Lib.hid hE
  clear hE
  go_enter Try.func26, Try.ntmps26
  go_wp2
  go_loop [1] (fun i => ∃ j : Nat, i = .int .i64 j ∧ j ≤ s.size ∧ j + spanN isTok s j = E) (fun i => s.size - (intOf i).toNat)
  case atStart => exact ⟨k, rfl, hk0, HE.out⟩
  case round =>
    obtain ⟨j, rfl, hj, hsp⟩ := hrel
    by_cases hlt : j < s.size
    · obtain ⟨c, hc⟩ : ∃ c, s[j].toNat = c := ⟨_, rfl⟩
      have hidx := index_str s j hlt (c : Int) j (by rw [hc]) rfl
      cases hb : isTok (c : Int) with
      | false =>
        rw [spanN_no hlt (by rw [hc]; exact hb)] at hsp
        obtain rfl : j = E := by omega
        have HB := Lib.hid hb
        clear hb hc
        go_wp2_with (go_at_call 36; refine (ref06_sign _ _).mono ?_; rw [HB.out]; rintro e w' ⟨rfl, rfl⟩)
        go_ret
        exact ⟨rfl, rfl⟩
      | true =>
        rw [spanN_yes hlt (by rw [hc]; exact hb)] at hsp
        have HS := Lib.hid hsp
        have HB := Lib.hid hb
        clear hb hc hsp
        go_wp2_with (go_at_call 36; refine (ref06_sign _ _).mono ?_; rw [HB.out]; rintro e w' ⟨rfl, rfl⟩)
        exact ⟨⟨j + 1, by go_num, by omega, by have := HS.out; omega⟩, by simp [intOf]; omega⟩
    · rw [spanN_end (by omega)] at hsp
      obtain rfl : j = E := by omega
      go_wp2_with fail
      go_ret
      exact ⟨rfl, rfl⟩
end Go.Proofs.Ytjemlaiciacnpaa
