/-
  The walks of utf8: Put, and the reference's Put.
-/
import Derived.Test.YtkdkoondchbekaaU8A
namespace Go.Proofs.Ytkdkoondchbekaa
open Go.RowKit
attribute [local go_sem] i64_and63 i64_and31 i64_and15 i64_and7
theorem encN_1 {r : Int} (h0 : isSc r = true) (h : r < 128) : encN r = [r] := by simp [encN, h0, h]
theorem encN_2 {r : Int} (h0 : isSc r = true) (h1 : 128 ≤ r) (h2 : r < 2048) : encN r = [192 + r / 64, 128 + r % 64] := by simp [encN, h0, show ¬ r < 128 by omega, h2]
theorem encN_3 {r : Int} (h0 : isSc r = true) (h1 : 2048 ≤ r) (h2 : r < 65536) : encN r = [224 + r / 64 / 64, 128 + r / 64 % 64, 128 + r % 64] := by simp [encN, h0, show ¬ r < 128 by omega, show ¬ r < 2048 by omega, h2]
theorem encN_4 {r : Int} (h0 : isSc r = true) (h1 : 65536 ≤ r) : encN r = [240 + r / 64 / 64 / 64, 128 + r / 64 / 64 % 64, 128 + r / 64 % 64, 128 + r % 64] := by simp [encN, h0, show ¬ r < 128 by omega, show ¬ r < 2048 by omega, show ¬ r < 65536 by omega]
theorem encN_0 {r : Int} (h0 : isSc r = false) : encN r = [] := by simp [encN, h0]
theorem sLen_1 {r : Int} (h0 : isSc r = true) (h : r < 128) : sLen r = 1 := by simp [sLen, h0, h]
theorem sLen_2 {r : Int} (h0 : isSc r = true) (h1 : 128 ≤ r) (h2 : r < 2048) : sLen r = 2 := by simp [sLen, h0, show ¬ r < 128 by omega, h2]
theorem sLen_3 {r : Int} (h0 : isSc r = true) (h1 : 2048 ≤ r) (h2 : r < 65536) : sLen r = 3 := by simp [sLen, h0, show ¬ r < 128 by omega, show ¬ r < 2048 by omega, h2]
theorem sLen_4 {r : Int} (h0 : isSc r = true) (h1 : 65536 ≤ r) : sLen r = 4 := by simp [sLen, h0, show ¬ r < 128 by omega, show ¬ r < 2048 by omega, show ¬ r < 65536 by omega]
theorem sLen_0 {r : Int} (h0 : isSc r = false) : sLen r = 0 := by simp [sLen, h0]
theorem or_bits6 (k x y : Int) (h : k = 192 ∨ k = 224 ∨ k = 240) (h0 : 0 ≤ y) (h1 : y < 8) (hx : x = y) : bits .or .i64 k x = k + y := by
  subst hx
  rcases h with rfl | rfl | rfl
  · exact bits_join .i64 62 (by decide) wraps_i64 5 192 x (by decide) (by decide) (by decide) h0 (by omega) (by omega)
  · exact bits_join .i64 62 (by decide) wraps_i64 4 224 x (by decide) (by decide) (by decide) h0 (by omega) (by omega)
  · exact bits_join .i64 62 (by decide) wraps_i64 3 240 x (by decide) (by decide) (by decide) h0 (by omega) (by omega)
theorem or192 (x : Int) (h0 : 0 ≤ x) (h1 : x < 32) : bits .or .i64 192 x = 192 + x := bits_join .i64 62 (by decide) wraps_i64 5 192 x (by decide) (by decide) (by decide) h0 (by omega) (by omega)
theorem or224 (x : Int) (h0 : 0 ≤ x) (h1 : x < 16) : bits .or .i64 224 x = 224 + x := bits_join .i64 62 (by decide) wraps_i64 4 224 x (by decide) (by decide) (by decide) h0 (by omega) (by omega)
theorem or240 (x : Int) (h0 : 0 ≤ x) (h1 : x < 8) : bits .or .i64 240 x = 240 + x := bits_join .i64 62 (by decide) wraps_i64 3 240 x (by decide) (by decide) (by decide) h0 (by omega) (by omega)
theorem or128 (x : Int) (h0 : 0 ≤ x) (h1 : x < 64) : bits .or .i64 128 x = 128 + x := bits_join .i64 62 (by decide) wraps_i64 6 128 x (by decide) (by decide) (by decide) h0 (by omega) (by omega)
set_option maxHeartbeats 400000 in
theorem utf8_Put_0 (r : Int) (w : World) (hs : isSc r = false) :
    Calls Try.prog 27 #[.int .i64 r] w fun e w' => e = .returned (.tuple #[.string (encS r), .bool false]) ∧ Below w.heap.size w w' := by
  have H := Lib.hid (sLen_0 hs)
  have E := Lib.hid (encN_0 hs)
  clear hs
  go_enter Try.func27, Try.ntmps27
  go_wp2_with fail
  refine (utf8_Len _ _).mono ?_; rintro e w' ⟨rfl, hb⟩; rw [H.out]
  go_wp2
  go_ret2
  exact ⟨ret2 (v_str (by unfold encS; rw [E.out]; rfl)) rfl, hb⟩
set_option maxHeartbeats 400000 in
theorem utf8_Put_1 (r : Int) (w : World) (hs : isSc r = true) (h1 : 0 ≤ r) (h2 : r < 128):
    Calls Try.prog 27 #[.int .i64 r] w fun e w' => e = .returned (.tuple #[.string (encS r), .bool true]) ∧ Below w.heap.size w w' := by
  have H := Lib.hid (sLen_1 hs h2)
  have E := Lib.hid (encN_1 hs h2)
  clear hs
  have hc := conv1
  go_enter Try.func27, Try.ntmps27
  go_wp2_with fail
  refine (utf8_Len _ _).mono ?_; rintro e w' ⟨rfl, hb⟩; rw [H.out]
  go_wp2
  go_ret2
  exact ⟨ret2 (v_str (by unfold encS; rw [E.out])) rfl, hb.alloc hb.size _⟩
set_option maxHeartbeats 400000 in
theorem utf8_Put_2 (r : Int) (w : World) (hs : isSc r = true) (h1 : 128 ≤ r) (h2 : r < 2048):
    Calls Try.prog 27 #[.int .i64 r] w fun e w' => e = .returned (.tuple #[.string (encS r), .bool true]) ∧ Below w.heap.size w w' := by
  have H := Lib.hid (sLen_2 hs h1 h2)
  have E := Lib.hid (encN_2 hs h1 h2)
  clear hs
  have hmk : ∀ w : World, (Instr.makeSlice 37 (.int .i64 2) (.int .i64 2)).run Try.prog w = .ok (.slice (some ⟨w.heap.size, 0, none⟩) 2 2) (w.alloc (.cells #[.int .u8 0, .int .u8 0] 5)) := fun _ => by kernel_rfl
  have hc := conv2
  go_enter Try.func27, Try.ntmps27
  go_wp2_with fail
  refine (utf8_Len _ _).mono ?_; rintro e w' ⟨rfl, hb⟩; rw [H.out]
  go_wp2
  refine wp_loop_rounds 2 ?_
  iterate 2 (rw [rounds_succ]; go_wp2)
  go_ret2
  exact ⟨ret2 (v_str (by unfold encS; rw [E.out])) rfl, (hb.alloc hb.size _).alloc (by have := hb.size; simp; omega) _⟩
set_option maxHeartbeats 400000 in
theorem utf8_Put_3 (r : Int) (w : World) (hs : isSc r = true) (h1 : 2048 ≤ r) (h2 : r < 65536):
    Calls Try.prog 27 #[.int .i64 r] w fun e w' => e = .returned (.tuple #[.string (encS r), .bool true]) ∧ Below w.heap.size w w' := by
  have H := Lib.hid (sLen_3 hs h1 h2)
  have E := Lib.hid (encN_3 hs h1 h2)
  clear hs
  have hmk : ∀ w : World, (Instr.makeSlice 37 (.int .i64 3) (.int .i64 3)).run Try.prog w = .ok (.slice (some ⟨w.heap.size, 0, none⟩) 3 3) (w.alloc (.cells #[.int .u8 0, .int .u8 0, .int .u8 0] 5)) := fun _ => by kernel_rfl
  have hc := conv3
  go_enter Try.func27, Try.ntmps27
  go_wp2_with fail
  refine (utf8_Len _ _).mono ?_; rintro e w' ⟨rfl, hb⟩; rw [H.out]
  go_wp2
  refine wp_loop_rounds 3 ?_
  iterate 3 (rw [rounds_succ]; go_wp2)
  go_ret2
  exact ⟨ret2 (v_str (by unfold encS; rw [E.out])) rfl, (hb.alloc hb.size _).alloc (by have := hb.size; simp; omega) _⟩
set_option maxHeartbeats 400000 in
theorem utf8_Put_4 (r : Int) (w : World) (hs : isSc r = true) (h1 : 65536 ≤ r) (h2 : r < 1114112):
    Calls Try.prog 27 #[.int .i64 r] w fun e w' => e = .returned (.tuple #[.string (encS r), .bool true]) ∧ Below w.heap.size w w' := by
  have H := Lib.hid (sLen_4 hs h1)
  have E := Lib.hid (encN_4 hs h1)
  clear hs
  have hmk : ∀ w : World, (Instr.makeSlice 37 (.int .i64 4) (.int .i64 4)).run Try.prog w = .ok (.slice (some ⟨w.heap.size, 0, none⟩) 4 4) (w.alloc (.cells #[.int .u8 0, .int .u8 0, .int .u8 0, .int .u8 0] 5)) := fun _ => by kernel_rfl
  have hc := conv4
  go_enter Try.func27, Try.ntmps27
  go_wp2_with fail
  refine (utf8_Len _ _).mono ?_; rintro e w' ⟨rfl, hb⟩; rw [H.out]
  go_wp2
  refine wp_loop_rounds 4 ?_
  iterate 4 (rw [rounds_succ]; go_wp2)
  go_ret2
  exact ⟨ret2 (v_str (by unfold encS; rw [E.out])) rfl, (hb.alloc hb.size _).alloc (by have := hb.size; simp; omega) _⟩
theorem utf8_Put (r : Int) (w : World) :
    Calls Try.prog 27 #[.int .i64 r] w fun e w' => e = .returned (.tuple #[.string (encS r), .bool (isSc r)]) ∧ Below w.heap.size w w' := by
  cases hs : isSc r with
  | false => exact utf8_Put_0 r w hs
  | true =>
    have hb := isSc_bd hs
    by_cases h1 : r < 128
    · exact utf8_Put_1 r w hs (by omega) h1
    · by_cases h2 : r < 2048
      · exact utf8_Put_2 r w hs (by omega) h2
      · by_cases h3 : r < 65536
        · exact utf8_Put_3 r w hs (by omega) h3
        · exact utf8_Put_4 r w hs (by omega) (by omega)
set_option maxHeartbeats 400000 in
theorem ref02_Put_0 (r : Int) (w : World) (hs : isSc r = false) :
    Calls Try.prog 30 #[.int .i64 r] w fun e w' => e = .returned (.tuple #[.string (encS r), .bool false]) ∧ Below w.heap.size w w' := by
  have H := Lib.hid (sLen_0 hs)
  have E := Lib.hid (encN_0 hs)
  clear hs
  go_enter Try.func30, Try.ntmps30
  go_wp2_with fail
  refine (ref02_Len _ _).mono ?_; rintro e w' ⟨rfl, rfl⟩; rw [H.out]
  go_wp2
  go_ret2
  exact ⟨ret2 (v_str (by unfold encS; rw [E.out]; rfl)) rfl, Below.refl _ _⟩
set_option maxHeartbeats 400000 in
theorem ref02_Put_1 (r : Int) (w : World) (hs : isSc r = true) (h1 : 0 ≤ r) (h2 : r < 128):
    Calls Try.prog 30 #[.int .i64 r] w fun e w' => e = .returned (.tuple #[.string (encS r), .bool true]) ∧ Below w.heap.size w w' := by
  have H := Lib.hid (sLen_1 hs h2)
  have E := Lib.hid (encN_1 hs h2)
  clear hs
  have hc := conv1
  go_enter Try.func30, Try.ntmps30
  go_wp2_with fail
  refine (ref02_Len _ _).mono ?_; rintro e w' ⟨rfl, rfl⟩; rw [H.out]
  go_wp2
  go_ret2
  exact ⟨ret2 (v_str (by unfold encS; rw [E.out])) rfl, (Below.refl _ _).alloc (Nat.le_refl _) _⟩
set_option maxHeartbeats 400000 in
theorem ref02_Put_2 (r : Int) (w : World) (hs : isSc r = true) (h1 : 128 ≤ r) (h2 : r < 2048):
    Calls Try.prog 30 #[.int .i64 r] w fun e w' => e = .returned (.tuple #[.string (encS r), .bool true]) ∧ Below w.heap.size w w' := by
  have H := Lib.hid (sLen_2 hs h1 h2)
  have E := Lib.hid (encN_2 hs h1 h2)
  clear hs
  have o1 : bits .or .i64 192 (r / 64) = 192 + r / 64 := or192 _ (by omega) (by omega)
  have o2 : bits .or .i64 128 (r % 64) = 128 + r % 64 := or128 _ (by omega) (by omega)
  have hc := conv2
  go_enter Try.func30, Try.ntmps30
  go_wp2_with fail
  refine (ref02_Len _ _).mono ?_; rintro e w' ⟨rfl, rfl⟩; rw [H.out]
  go_wp2
  go_ret2
  exact ⟨ret2 (v_str (by unfold encS; rw [E.out])) rfl, (Below.refl _ _).alloc (Nat.le_refl _) _⟩
set_option maxHeartbeats 400000 in
theorem ref02_Put_3 (r : Int) (w : World) (hs : isSc r = true) (h1 : 2048 ≤ r) (h2 : r < 65536):
    Calls Try.prog 30 #[.int .i64 r] w fun e w' => e = .returned (.tuple #[.string (encS r), .bool true]) ∧ Below w.heap.size w w' := by
  have H := Lib.hid (sLen_3 hs h1 h2)
  have E := Lib.hid (encN_3 hs h1 h2)
  clear hs
  have o1 : bits .or .i64 224 (r / 4096) = 224 + r / 4096 := or224 _ (by omega) (by omega)
  have o2 : bits .or .i64 128 (r % 64) = 128 + r % 64 := or128 _ (by omega) (by omega)
  have o3 : bits .or .i64 128 (r / 64 % 64) = 128 + r / 64 % 64 := or128 _ (by omega) (by omega)
  have hc := conv3
  go_enter Try.func30, Try.ntmps30
  go_wp2_with fail
  refine (ref02_Len _ _).mono ?_; rintro e w' ⟨rfl, rfl⟩; rw [H.out]
  go_wp2
  go_ret2
  exact ⟨ret2 (v_str (by unfold encS; rw [E.out]; apply congrArg strOfNums; simp only [List.cons.injEq, and_true]; omega)) rfl, (Below.refl _ _).alloc (Nat.le_refl _) _⟩
set_option maxHeartbeats 400000 in
theorem ref02_Put_4 (r : Int) (w : World) (hs : isSc r = true) (h1 : 65536 ≤ r) (h2 : r < 1114112):
    Calls Try.prog 30 #[.int .i64 r] w fun e w' => e = .returned (.tuple #[.string (encS r), .bool true]) ∧ Below w.heap.size w w' := by
  have H := Lib.hid (sLen_4 hs h1)
  have E := Lib.hid (encN_4 hs h1)
  clear hs
  have o1 : bits .or .i64 240 (r / 262144) = 240 + r / 262144 := or240 _ (by omega) (by omega)
  have o2 : bits .or .i64 128 (r % 64) = 128 + r % 64 := or128 _ (by omega) (by omega)
  have o3 : bits .or .i64 128 (r / 64 % 64) = 128 + r / 64 % 64 := or128 _ (by omega) (by omega)
  have o4 : bits .or .i64 128 (r / 4096 % 64) = 128 + r / 4096 % 64 := or128 _ (by omega) (by omega)
  have hc := conv4
  go_enter Try.func30, Try.ntmps30
  go_wp2_with fail
  refine (ref02_Len _ _).mono ?_; rintro e w' ⟨rfl, rfl⟩; rw [H.out]
  go_wp2
  go_ret2
  exact ⟨ret2 (v_str (by unfold encS; rw [E.out]; apply congrArg strOfNums; simp only [List.cons.injEq, and_true]; omega)) rfl, (Below.refl _ _).alloc (Nat.le_refl _) _⟩
theorem ref02_Put (r : Int) (w : World) :
    Calls Try.prog 30 #[.int .i64 r] w fun e w' => e = .returned (.tuple #[.string (encS r), .bool (isSc r)]) ∧ Below w.heap.size w w' := by
  cases hs : isSc r with
  | false => exact ref02_Put_0 r w hs
  | true =>
    have hb := isSc_bd hs
    by_cases h1 : r < 128
    · exact ref02_Put_1 r w hs (by omega) h1
    · by_cases h2 : r < 2048
      · exact ref02_Put_2 r w hs (by omega) h2
      · by_cases h3 : r < 65536
        · exact ref02_Put_3 r w hs (by omega) h3
        · exact ref02_Put_4 r w hs (by omega) (by omega)
end Go.Proofs.Ytkdkoondchbekaa
