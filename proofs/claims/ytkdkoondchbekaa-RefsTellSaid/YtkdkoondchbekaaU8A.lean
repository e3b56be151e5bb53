/-
  The walks of utf8 that loop over no text: Is, Len, Put, follow, piece, Next, and the reference's.
-/
import Derived.Test.YtkdkoondchbekaaBase
import Derived.Test.YtkdkoondchbekaaU8P
namespace Go.Proofs.Ytkdkoondchbekaa
open Go.RowKit
attribute [local go_sem] i64_and63 i64_and31 i64_and15 i64_and7
theorem isSc_bd {r : Int} (h : isSc r = true) : 0 ≤ r ∧ r < 1114112 := by unfold isSc at h; have := of_decide_eq_true h; omega
set_option maxHeartbeats 400000 in
theorem utf8_Is (r : Int) (w : World) :
    Calls Try.prog 56 #[.int .i64 r] w fun e w' => e = .returned (.bool (isSc r)) ∧ w = w' := by
  go_enter Try.func56, Try.ntmps56
  go_wp2
  all_goals (go_ret; refine ⟨ret_bool ?_, rfl⟩; rw [Bool.eq_iff_iff]; simp [isSc]; omega)
set_option maxHeartbeats 400000 in
theorem ref02_Is (r : Int) (w : World) :
    Calls Try.prog 57 #[.int .i64 r] w fun e w' => e = .returned (.bool (isSc r)) ∧ w = w' := by
  go_enter Try.func57, Try.ntmps57
  go_wp2
  all_goals (go_ret; refine ⟨ret_bool ?_, rfl⟩; rw [Bool.eq_iff_iff]; simp [isSc]; omega)
set_option maxHeartbeats 400000 in
theorem ref02_Len (r : Int) (w : World) :
    Calls Try.prog 47 #[.int .i64 r] w fun e w' => e = .returned (.int .i64 (sLen r)) ∧ w = w' := by
  by_cases hs : isSc r = true
  · have H := Lib.hid hs
    clear hs
    go_enter Try.func47, Try.ntmps47
    go_wp2_with (go_at_call 57; refine (ref02_Is _ _).mono ?_; rintro e w' ⟨rfl, rfl⟩; rw [H.out])
    all_goals (go_ret; refine ⟨ret_int ?_, rfl⟩; have h := H.out; simp [sLen, h]; try omega)
  · have hs : isSc r = false := by simpa using hs
    have H := Lib.hid hs
    clear hs
    go_enter Try.func47, Try.ntmps47
    go_wp2_with (go_at_call 57; refine (ref02_Is _ _).mono ?_; rintro e w' ⟨rfl, rfl⟩; rw [H.out])
    all_goals (go_ret; refine ⟨ret_int ?_, rfl⟩; have h := H.out; simp [sLen, h])
set_option maxHeartbeats 400000 in
theorem utf8_Len (r : Int) (w : World) :
    Calls Try.prog 46 #[.int .i64 r] w fun e w' => e = .returned (.int .i64 (sLen r)) ∧ Below w.heap.size w w' := by
  by_cases hs : isSc r = true
  · have hb : r < 1114112 := (isSc_bd hs).2
    have H := Lib.hid hs
    clear hs
    go_enter Try.func46, Try.ntmps46
    go_wp2_with (go_at_call 56; refine (utf8_Is _ _).mono ?_; rintro e w' ⟨rfl, rfl⟩; rw [H.out])
    have i0 : ∀ w, (Instr.index 87 (.agg #[.int .i64 128, .int .i64 2048, .int .i64 65536, .int .i64 1114112]) (.int .i64 0)).run Try.prog w = .ok (.int .i64 128) w := fun _ => by kernel_rfl
    have i1 : ∀ w, (Instr.index 87 (.agg #[.int .i64 128, .int .i64 2048, .int .i64 65536, .int .i64 1114112]) (.int .i64 1)).run Try.prog w = .ok (.int .i64 2048) w := fun _ => by kernel_rfl
    have i2 : ∀ w, (Instr.index 87 (.agg #[.int .i64 128, .int .i64 2048, .int .i64 65536, .int .i64 1114112]) (.int .i64 2)).run Try.prog w = .ok (.int .i64 65536) w := fun _ => by kernel_rfl
    have i3 : ∀ w, (Instr.index 87 (.agg #[.int .i64 128, .int .i64 2048, .int .i64 65536, .int .i64 1114112]) (.int .i64 3)).run Try.prog w = .ok (.int .i64 1114112) w := fun _ => by kernel_rfl
    refine wp_loop_rounds 4 ?_
    rw [rounds_succ]
    go_wp2
    all_goals try (rw [rounds_succ]; go_wp2)
    all_goals try (rw [rounds_succ]; go_wp2)
    all_goals try (rw [rounds_succ]; go_wp2)
    all_goals (go_ret; refine ⟨ret_int ?_, ?_⟩; (have h := H.out; simp [sLen, h]; try omega))
    all_goals exact (Below.refl _ _).alloc (Nat.le_refl _) _
  · have hs : isSc r = false := by simpa using hs
    have H := Lib.hid hs
    clear hs
    go_enter Try.func46, Try.ntmps46
    go_wp2_with (go_at_call 56; refine (utf8_Is _ _).mono ?_; rintro e w' ⟨rfl, rfl⟩; rw [H.out])
    all_goals (go_ret; refine ⟨ret_int ?_, Below.refl _ _⟩; have h := H.out; simp [sLen, h])
end Go.Proofs.Ytkdkoondchbekaa
