/-
  The document's white and blank, of layer 7.
-/
import Derived.Test.YtaheooedcjjckaaDeB
namespace Go.Proofs.Ytaheooedcjjckaa
open Go.RowKit
theorem ref07_white (c : Int) (w : World) : Calls Try.prog 34 #[.int .u8 c] w fun e w' => e = .returned (.bool (whN c)) ∧ w = w' := by
  have HE := Lib.hid (show whN c = (c == 9 || (c == 10 || (c == 13 || c == 32))) by
    unfold whN
    cases c == 32 <;> cases c == 9 <;> cases c == 10 <;> cases c == 13 <;> rfl)
  cases q1 : c == 9 with
  | true =>
    go_enter Try.func34, Try.ntmps34
    go_wp2
    go_ret
    exact ⟨by rw [HE.out, q1]; rfl, rfl⟩
  | false =>
    cases q2 : c == 10 with
    | true =>
      go_enter Try.func34, Try.ntmps34
      go_wp2
      go_ret
      exact ⟨by rw [HE.out, q1, q2]; rfl, rfl⟩
    | false =>
      cases q3 : c == 13 with
      | true =>
        go_enter Try.func34, Try.ntmps34
        go_wp2
        go_ret
        exact ⟨by rw [HE.out, q1, q2, q3]; rfl, rfl⟩
      | false =>
        cases q4 : c == 32 with
        | true =>
          go_enter Try.func34, Try.ntmps34
          go_wp2
          go_ret
          exact ⟨by rw [HE.out, q1, q2, q3, q4]; rfl, rfl⟩
        | false =>
          go_enter Try.func34, Try.ntmps34
          go_wp2
          go_ret
          exact ⟨by rw [HE.out, q1, q2, q3, q4]; rfl, rfl⟩
theorem ref07_blank (s : ByteArray) (a : Nat) (w : World) (hs : s.size ≤ 1099511627776) (ha : a ≤ s.size) :
    Calls Try.prog 35 #[.string s, .int .i64 a] w fun e w' => e = .returned (.int .i64 ((a + (((nums s).drop a).takeWhile whN).length : Nat) : Int)) ∧ w = w' := by
  go_enter Try.func35, Try.ntmps35
  go_wp2
  go_loop [1] (fun i => ∃ k : Nat, i = .int .i64 k ∧ k ≤ s.size ∧ k + (((nums s).drop k).takeWhile whN).length = a + (((nums s).drop a).takeWhile whN).length) (fun i => s.size - (intOf i).toNat)
  case atStart => exact ⟨a, rfl, ha, rfl⟩
  case round =>
    obtain ⟨k, rfl, hk, hq⟩ := hrel
    by_cases hlt : k < s.size
    · obtain ⟨c, hcc⟩ : ∃ c : Int, (s[k].toNat : Int) = c := ⟨_, rfl⟩
      have hix := index_str s k hlt c k hcc rfl
      rw [nums_drop s k hlt, hcc] at hq
      cases hp : whN c with
      | true =>
        have HP := Lib.hid hp
        rw [List.takeWhile_cons, if_pos hp, List.length_cons] at hq
        have HQ := Lib.hid (show (k + 1) + (((nums s).drop (k + 1)).takeWhile whN).length = a + (((nums s).drop a).takeWhile whN).length by omega)
        clear hcc hp hq
        go_wp2_with fail
        refine (ref07_white c _).mono ?_
        rw [HP.out]
        rintro e w' ⟨rfl, rfl⟩
        go_wp2
        exact ⟨⟨k + 1, by go_num, by omega, HQ.out⟩, by simp [intOf]; omega⟩
      | false =>
        have HP := Lib.hid hp
        rw [List.takeWhile_cons, if_neg (by rw [hp]; decide), List.length_nil, Nat.add_zero] at hq
        have HQ := Lib.hid hq
        clear hcc hp hq
        go_wp2_with fail
        refine (ref07_white c _).mono ?_
        rw [HP.out]
        rintro e w' ⟨rfl, rfl⟩
        go_wp2
        go_ret
        exact ⟨ret_int (by have := HQ.out; omega), rfl⟩
    · rw [nums_drop_end s k (by omega), List.takeWhile_nil, List.length_nil, Nat.add_zero] at hq
      have HQ := Lib.hid hq
      clear hq
      go_wp2
      go_ret
      exact ⟨ret_int (by have := HQ.out; omega), rfl⟩
end Go.Proofs.Ytaheooedcjjckaa
