/-
  The small walks of layer 7: white, small, the document's white.
-/
import Derived.Test.YtaheooedcjjckaaDeP
import Derived.Test.YtaheooedcjjckaaBase
namespace Go.Proofs.Ytaheooedcjjckaa
open Go.RowKit
theorem declare_white (c : Int) (w : World) : Calls Try.prog 31 #[.int .u8 c] w fun e w' => e = .returned (.bool (whN c)) ∧ w = w' := by
  have HE := Lib.hid (show whN c = (c == 32 || c == 9 || c == 10 || c == 13) from rfl)
  cases q1 : c == 32 with
  | true =>
    go_enter Try.func31, Try.ntmps31
    go_wp2
    go_ret
    exact ⟨by rw [HE.out, q1]; rfl, rfl⟩
  | false =>
    cases q2 : c == 9 with
    | true =>
      go_enter Try.func31, Try.ntmps31
      go_wp2
      go_ret
      exact ⟨by rw [HE.out, q1, q2]; rfl, rfl⟩
    | false =>
      cases q3 : c == 10 with
      | true =>
        go_enter Try.func31, Try.ntmps31
        go_wp2
        go_ret
        exact ⟨by rw [HE.out, q1, q2, q3]; rfl, rfl⟩
      | false =>
        cases q4 : c == 13 with
        | true =>
          go_enter Try.func31, Try.ntmps31
          go_wp2
          go_ret
          exact ⟨by rw [HE.out, q1, q2, q3, q4]; rfl, rfl⟩
        | false =>
          go_enter Try.func31, Try.ntmps31
          go_wp2
          go_ret
          exact ⟨by rw [HE.out, q1, q2, q3, q4]; rfl, rfl⟩
theorem declare_small (c : Int) (w : World) : Calls Try.prog 40 #[.int .u8 c] w fun e w' => e = .returned (.bool (smN c)) ∧ w = w' := by
  by_cases h1 : 97 ≤ c
  · by_cases h2 : c ≤ 122
    · have HE := Lib.hid (show smN c = true by unfold smN; exact decide_eq_true ⟨h1, h2⟩)
      go_enter Try.func40, Try.ntmps40
      go_wp2
      go_ret
      exact ⟨by rw [HE.out]; rfl, rfl⟩
    · have HE := Lib.hid (show smN c = false by unfold smN; exact decide_eq_false (fun h => h2 h.2))
      go_enter Try.func40, Try.ntmps40
      go_wp2
      go_ret
      exact ⟨by rw [HE.out]; rfl, rfl⟩
  · have HE := Lib.hid (show smN c = false by unfold smN; exact decide_eq_false (fun h => h1 h.1))
    go_enter Try.func40, Try.ntmps40
    go_wp2
    go_ret
    exact ⟨by rw [HE.out]; rfl, rfl⟩
end Go.Proofs.Ytaheooedcjjckaa
