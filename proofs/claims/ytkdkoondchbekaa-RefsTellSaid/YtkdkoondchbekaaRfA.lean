/-
  The walks of refs: Named, worth, Number, scalar, ends; the reference's Named, digit, Number, end.
-/
import Derived.Test.YtkdkoondchbekaaChA
import Derived.Test.YtkdkoondchbekaaBy
import Derived.Test.YtkdkoondchbekaaRfQ
import Derived.Test.YtkdkoondchbekaaU8C
import Derived.Test.YtkdkoondchbekaaLib
namespace Go.Proofs.Ytkdkoondchbekaa
open Go.RowKit
theorem nums_toList (s : ByteArray) : nums s = s.toList.map fun c => (c.toNat : Int) := by unfold nums; rw [ByteArray.toList_eq]
theorem nums_is {s : ByteArray} {l : List UInt8} (h : s.toList = l) : nums s = l.map fun c => (c.toNat : Int) := by rw [nums_toList, h]
theorem u8_inj : ∀ {a b : List UInt8}, (a.map fun c => (c.toNat : Int)) = (b.map fun c => (c.toNat : Int)) → a = b
  | [], [], _ => rfl
  | [], _ :: _, h => by cases h
  | _ :: _, [], h => by cases h
  | x :: a, y :: b, h => by
    simp only [List.map_cons, List.cons.injEq] at h
    rw [u8_inj h.2, UInt8.toNat_inj.1 (by omega : x.toNat = y.toNat)]
theorem nums_iff (s : ByteArray) (l : List UInt8) (m : List Int) (hm : (l.map fun c => (c.toNat : Int)) = m) : (nums s = m) ↔ (s.toList == l) = true := by
  rw [nums_toList, ← hm, beq_iff_eq]
  exact ⟨u8_inj, fun h => by rw [h]⟩
def namU (l : List UInt8) : Int × Bool :=
  if (l == [108, 116]) = true then (60, true) else if (l == [103, 116]) = true then (62, true) else if (l == [97, 109, 112]) = true then (38, true) else if (l == [97, 112, 111, 115]) = true then (39, true) else if (l == [113, 117, 111, 116]) = true then (34, true) else (0, false)
theorem namN_u (s : ByteArray) : namN (nums s) = namU s.toList := by
  unfold namN namU
  simp only [nums_iff s [108, 116] [108, 116] rfl, nums_iff s [103, 116] [103, 116] rfl, nums_iff s [97, 109, 112] [97, 109, 112] rfl, nums_iff s [97, 112, 111, 115] [97, 112, 111, 115] rfl, nums_iff s [113, 117, 111, 116] [113, 117, 111, 116] rfl]
set_option maxHeartbeats 1000000 in
theorem refs_Named (s : ByteArray) (w : World) : Calls Try.prog 17 #[.string s] w fun e w' => e = .returned (.tuple #[.int .i64 (namN (nums s)).1, .bool (namN (nums s)).2]) ∧ w = w' := by
  rw [namN_u]
  obtain ⟨l, hl⟩ : ∃ l, s.toList = l := ⟨_, rfl⟩
  go_enter Try.func17, Try.ntmps17
  go_wp2_with fail
  all_goals
    go_light
    go_ret2
    refine ⟨?_, rfl⟩
    unfold namU
    simp [*]
set_option maxHeartbeats 1000000 in
theorem ref13_Named (s : ByteArray) (w : World) : Calls Try.prog 18 #[.string s] w fun e w' => e = .returned (.tuple #[.int .i64 (namN (nums s)).1, .bool (namN (nums s)).2]) ∧ w = w' := by
  rw [namN_u]
  obtain ⟨l, hl⟩ : ∃ l, s.toList = l := ⟨_, rfl⟩
  go_enter Try.func18, Try.ntmps18
  go_wp2_with fail
  all_goals
    go_light
    go_ret2
    refine ⟨?_, rfl⟩
    unfold namU
    simp [*]
theorem and15 (c : Nat) (h : c < 256) : (48 ≤ c → c ≤ 57 → bits .and .u8 (c : Int) 15 = (c : Int) - 48) ∧ (97 ≤ c → c ≤ 102 → bits .and .u8 (c : Int) 15 = (c : Int) - 96) ∧ (65 ≤ c → c ≤ 70 → bits .and .u8 (c : Int) 15 = (c : Int) - 64) := by
  have h := List.all_eq_true.1 (show ((List.range 256).all fun c => decide ((48 ≤ c → c ≤ 57 → bits .and .u8 (c : Int) 15 = (c : Int) - 48) ∧ (97 ≤ c → c ≤ 102 → bits .and .u8 (c : Int) 15 = (c : Int) - 96) ∧ (65 ≤ c → c ≤ 70 → bits .and .u8 (c : Int) 15 = (c : Int) - 64))) = true by decide +kernel) c (List.mem_range.2 h)
  exact of_decide_eq_true h
set_option maxRecDepth 100000 in
set_option maxHeartbeats 1000000 in
theorem refs_worth (c : Int) (w : World) (h0 : 0 ≤ c) (h1 : c < 256) : Calls Try.prog 39 #[.int .u8 c] w fun e w' => e = .returned (.int .i64 (worthN c)) ∧ w = w' := by
  obtain ⟨n, rfl⟩ := Int.eq_ofNat_of_zero_le h0
  have hn : n < 256 := by omega
  obtain ⟨k1, k2, k3⟩ := and15 n hn
  unfold worthN
  by_cases a : 48 ≤ (n : Int) ∧ (n : Int) ≤ 57
  · have hb := k1 (by omega) (by omega)
    rw [if_pos a]
    obtain ⟨a1, a2⟩ := a
    clear k1 k2 k3
    go_enter Try.func39, Try.ntmps39
    go_wp2
    go_ret
    exact ⟨rfl, rfl⟩
  · rw [if_neg a]
    by_cases b : 97 ≤ (n : Int) ∧ (n : Int) ≤ 102
    · have hb := k2 (by omega) (by omega)
      rw [if_pos b]
      obtain ⟨b1, b2⟩ := b
      have a1 : ¬ (n : Int) ≤ 57 := by omega
      clear k1 k2 k3 a
      go_enter Try.func39, Try.ntmps39
      go_wp2
      all_goals
        go_ret
        exact ⟨ret_int (by omega), rfl⟩
    · rw [if_neg b]
      by_cases d : 65 ≤ (n : Int) ∧ (n : Int) ≤ 70
      · have hb := k3 (by omega) (by omega)
        rw [if_pos d]
        obtain ⟨d1, d2⟩ := d
        have a1 : ¬ (n : Int) ≤ 57 := by omega
        have a2 : ¬ 97 ≤ (n : Int) := by omega
        clear k1 k2 k3 a b
        go_enter Try.func39, Try.ntmps39
        go_wp2
        all_goals
          go_ret
          exact ⟨ret_int (by omega), rfl⟩
      · rw [if_neg d]
        clear k1 k2 k3
        go_enter Try.func39, Try.ntmps39
        go_wp2
        all_goals first
          | (exfalso; omega)
          | (go_ret
             exact ⟨rfl, rfl⟩)
/-- a digit's worth to a base; -1: it is none. -/
def digR (c b : Int) : Int := if worthN c < b then worthN c else -1
set_option maxHeartbeats 1000000 in
theorem ref13_digit (c b : Int) (w : World) (h0 : 0 ≤ c) (h1 : c < 256) (hb0 : 1 ≤ b) (hb : b ≤ 16) : Calls Try.prog 41 #[.int .u8 c, .int .i64 b] w fun e w' => e = .returned (.int .i64 (digR c b)) ∧ w = w' := by
  unfold digR worthN
  by_cases a : 48 ≤ c ∧ c ≤ 57
  · rw [if_pos a]
    obtain ⟨a1, a2⟩ := a
    go_enter Try.func41, Try.ntmps41
    go_wp2
    all_goals
      go_ret
      refine ⟨ret_int ?_, rfl⟩
      first | rfl | omega | (rw [if_pos (by omega)]; try omega) | (rw [if_neg (by omega)]; try omega)
  · rw [if_neg a]
    by_cases b : 97 ≤ c ∧ c ≤ 102
    · rw [if_pos b]
      obtain ⟨b1, b2⟩ := b
      have a1 : ¬ c ≤ 57 := by omega
      clear a
      go_enter Try.func41, Try.ntmps41
      go_wp2
      all_goals
        go_ret
        refine ⟨ret_int ?_, rfl⟩
        first | rfl | omega | (rw [if_pos (by omega)]; try omega) | (rw [if_neg (by omega)]; try omega)
    · rw [if_neg b]
      by_cases d : 65 ≤ c ∧ c ≤ 70
      · rw [if_pos d]
        obtain ⟨d1, d2⟩ := d
        have a1 : ¬ c ≤ 57 := by omega
        have a2 : ¬ 97 ≤ c := by omega
        clear a b
        go_enter Try.func41, Try.ntmps41
        go_wp2
        all_goals
          go_ret
          refine ⟨ret_int ?_, rfl⟩
          first | rfl | omega | (rw [if_pos (by omega)]; try omega) | (rw [if_neg (by omega)]; try omega)
      · rw [if_neg d, if_neg (by omega)]
        go_enter Try.func41, Try.ntmps41
        go_wp2
        all_goals first
          | (exfalso; omega)
          | (go_ret
             exact ⟨rfl, rfl⟩)
end Go.Proofs.Ytkdkoondchbekaa
