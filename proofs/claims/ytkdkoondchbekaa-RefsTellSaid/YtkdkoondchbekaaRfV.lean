/-
  The walk of layer 13's statement RefsTell.
-/
import Derived.Test.YtkdkoondchbekaaRfU
namespace Go.Proofs.Ytkdkoondchbekaa
open Go.RowKit Go.Shelf
attribute [local go_sem] Oper.semAt_some
theorem looseR_len (l : List Int) (a : Nat) : (looseR htmN a l).2.length ≤ l.length := by
  have h := loose_pr htmN a _ l 0 (Nat.le_refl _)
  rw [Nat.add_zero] at h
  rw [h]
  have h2 := (prN_bound _ l 0 (Nat.le_refl _)).1
  refine Nat.le_trans ?_ h2
  generalize prN 0 l = p
  dsimp only
  induction p with
  | nil => simp
  | cons x t ih =>
    have := resL_one htmN a x
    rw [List.flatMap_cons, List.length_append, List.length_cons]
    omega
set_option maxHeartbeats 2000000 in
theorem law_RefsTell (s : ByteArray) (r0 : Int) (q : Bool) (w : World) (m : Int) (hm : MaxAt w m) :
    Calls Try.prog 3 #[.string s, .int .i64 r0, .bool q] w fun e w' => e = .returned (.bool true) ∧ Below w.heap.size w w' := by
  have HW := Lib.hid (fun (u : World) (h : MaxAt u m) => law13_wakes u m h)
  have HM := Lib.hid hm
  clear hm
  have hB := Below.refl w.heap.size w
  by_cases h1 : 2000 < s.size
  · go_enter Try.func3, Try.ntmps3
    go_wp2_with (go_at_call 9; refine (HW.out _ (HM.out.below hB)).mono ?_; rintro e w' ⟨rfl, hb1⟩; replace hB := bt hB hb1)
    go_ret
    exact ⟨rfl, hB⟩
  by_cases h2 : r0 < 0
  · go_enter Try.func3, Try.ntmps3
    go_wp2_with (go_at_call 9; refine (HW.out _ (HM.out.below hB)).mono ?_; rintro e w' ⟨rfl, hb1⟩; replace hB := bt hB hb1)
    go_ret
    exact ⟨rfl, hB⟩
  by_cases h3 : 1048576 < r0
  · go_enter Try.func3, Try.ntmps3
    go_wp2_with (go_at_call 9; refine (HW.out _ (HM.out.below hB)).mono ?_; rintro e w' ⟨rfl, hb1⟩; replace hB := bt hB hb1)
    go_ret
    exact ⟨rfl, hB⟩
  obtain ⟨a, rfl⟩ : ∃ a : Nat, r0 = (a : Int) := ⟨r0.toNat, by omega⟩
  obtain ⟨v1, v2, v3, hS⟩ := strV_shape (strictN 0 (nums s))
  obtain ⟨X, hX⟩ : ∃ X, strOfNums (looseR htmN a (nums s)).1 = X := ⟨_, rfl⟩
  obtain ⟨zs, hzs⟩ : ∃ X, (looseR htmN a (nums s)).2 = X := ⟨_, rfl⟩
  obtain ⟨E, hE⟩ : ∃ X, strOfNums (escN q (nums s)) = X := ⟨_, rfl⟩
  have hzl : zs.length < 1000000000 := by
    have := looseR_len (nums s) a
    rw [hzs, nums_length] at this
    omega
  have A1 := Lib.hid (fun u => by have h := refs_Strict s (by omega) u; rw [hS] at h; exact h)
  have A2 := Lib.hid (fun u => by have h := ref13_Strict s (by omega) u; rw [hS] at h; exact h)
  have A3 := Lib.hid (fun u hmu => by have h := refs_Loose s a (by omega) (by omega) m u hmu; rw [hX, hzs] at h; exact h)
  have A4 := Lib.hid (fun u => by have h := ref13_Loose s a (by omega) (by omega) u; rw [hX, hzs] at h; exact h)
  have A5 := Lib.hid (fun u => by have h := refs_Escape s q (by omega) u; rw [hE] at h; exact h)
  have A6 := Lib.hid (fun u => by have h := ref13_Escape s q (by omega) u; rw [hE] at h; exact h)
  clear hS hX hzs hE
  go_enter Try.func3, Try.ntmps3
  go_wp2_with fail
  refine (A1.out _).mono ?_
  rintro e w1 ⟨rfl, hb1⟩
  replace hB := bt hB hb1
  go_wp2_with fail
  refine (A2.out _).mono ?_
  rintro e w2 ⟨rfl, hb2⟩
  replace hB := bt hB hb2
  go_wp2_with fail
  refine (A3.out _ (HM.out.below hB)).mono ?_
  rintro e w3 ⟨va, rfl, hra, hz, hb3⟩
  clear hz
  replace hB := bt hB hb3
  go_wp2_with fail
  refine (A4.out _).mono ?_
  rintro e w4 ⟨vb, rfl, hrb, hb4⟩
  replace hB := bt hB hb4
  have hra := own_below hra hb4 (Nat.le_refl _)
  have HSR := Lib.hid (ref13_SameReasons w4 _ _ va vb zs hra hrb hzl)
  clear hra hrb
  go_wp2_with fail
  refine HSR.out.mono ?_
  rintro e w5 ⟨rfl, hb5⟩
  replace hB := bt hB hb5
  go_wp2_with fail
  refine (A5.out _).mono ?_
  rintro e w6 ⟨rfl, hb6⟩
  replace hB := bt hB hb6
  go_wp2_with fail
  refine (A6.out _).mono ?_
  rintro e w' ⟨rfl, rfl⟩
  go_wp2_with fail
  refine (HW.out _ (HM.out.below hB)).mono ?_
  rintro e w7 ⟨rfl, hb7⟩
  go_wp2
  go_ret
  exact ⟨rfl, bt hB hb7⟩
end Go.Proofs.Ytkdkoondchbekaa
