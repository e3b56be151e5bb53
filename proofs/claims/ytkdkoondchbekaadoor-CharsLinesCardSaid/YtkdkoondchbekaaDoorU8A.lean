/-
  The walks of utf8 that loop over no text: Is, Len, Put, follow, piece, Next, and the reference's.
-/
import Derived.Test.YtkdkoondchbekaaDoorBase
import Derived.Test.YtkdkoondchbekaaDoorU8P
namespace Go.Proofs.YtkdkoondchbekaaDoor
open Go.RowKit
attribute [local go_sem] i64_and63 i64_and31 i64_and15 i64_and7
theorem isSc_bd {r : Int} (h : isSc r = true) : 0 ≤ r ∧ r < 1114112 := by unfold isSc at h; have := of_decide_eq_true h; omega
set_option maxHeartbeats 400000 in
theorem ref02_Is (r : Int) (w : World) :
    Calls Tryd.prog 48 #[.int .i64 r] w fun e w' => e = .returned (.bool (isSc r)) ∧ w = w' := by
  go_enter Tryd.func48, Tryd.ntmps48
  go_wp2
  all_goals (go_ret; refine ⟨ret_bool ?_, rfl⟩; rw [Bool.eq_iff_iff]; simp [isSc]; omega)
set_option maxHeartbeats 400000 in
theorem ref02_Len (r : Int) (w : World) :
    Calls Tryd.prog 41 #[.int .i64 r] w fun e w' => e = .returned (.int .i64 (sLen r)) ∧ w = w' := by
  by_cases hs : isSc r = true
  · have H := Lib.hid hs
    clear hs
    go_enter Tryd.func41, Tryd.ntmps41
    go_wp2_with (go_at_call 48; refine (ref02_Is _ _).mono ?_; rintro e w' ⟨rfl, rfl⟩; rw [H.out])
    all_goals (go_ret; refine ⟨ret_int ?_, rfl⟩; have h := H.out; simp [sLen, h]; try omega)
  · have hs : isSc r = false := by simpa using hs
    have H := Lib.hid hs
    clear hs
    go_enter Tryd.func41, Tryd.ntmps41
    go_wp2_with (go_at_call 48; refine (ref02_Is _ _).mono ?_; rintro e w' ⟨rfl, rfl⟩; rw [H.out])
    all_goals (go_ret; refine ⟨ret_int ?_, rfl⟩; have h := H.out; simp [sLen, h])
end Go.Proofs.YtkdkoondchbekaaDoor
