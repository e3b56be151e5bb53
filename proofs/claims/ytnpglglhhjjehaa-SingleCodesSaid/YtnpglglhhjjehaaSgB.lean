/-
  The walks of single: plain, cyrillic, Scalar, Table, back, Byte.
-/
import Derived.Test.YtnpglglhhjjehaaSgA
namespace Go.Proofs.Ytnpglglhhjjehaa
open Go.RowKit
theorem zInt (w : World) : (zeroValue 3).run Try.prog w = .ok (.int .i64 0) w := by kernel_rfl
set_option maxHeartbeats 1000000 in
theorem single_plain (b : Nat) (L : List (Int × Int)) (x : Int) (w : World) (him : IMap w .i64 b (iv L)) :
    Calls Try.prog 29 #[.agg #[.map (some b)], .int .i64 x] w fun e w' => e = .returned (.int .i64 (plainOf L x)) ∧ Below w.heap.size w w' := by
  have hlk := ((him.alloc (.cells #[.map (some b)] 55)).lookup (t := 53) Try.underlying53 Try.underlying3 (.int .i64 0) (zInt _) x).1
  rw [iv_get] at hlk
  cases hg : iget L x with
  | none =>
    rw [hg] at hlk
    simp only [Option.map_none, Option.getD_none, Option.isSome_none] at hlk
    have HP := Lib.hid (show plainOf L x = x by unfold plainOf; rw [hg]; rfl)
    clear hg
    go_enter Try.func29, Try.ntmps29
    go_wp2
    go_ret
    exact ⟨by rw [HP.out]; rfl, (Below.refl _ _).alloc (Nat.le_refl _) _⟩
  | some y =>
    rw [hg] at hlk
    simp only [Option.map_some, Option.getD_some, Option.isSome_some] at hlk
    have HP := Lib.hid (show plainOf L x = y by unfold plainOf; rw [hg]; rfl)
    clear hg
    go_enter Try.func29, Try.ntmps29
    go_wp2
    go_ret
    exact ⟨by rw [HP.out]; rfl, (Below.refl _ _).alloc (Nat.le_refl _) _⟩
set_option maxHeartbeats 1000000 in
theorem single_cyrillic (b : Nat) (x : Int) (w : World) (him : IMap w .i64 b (iv fiveL)) (h0 : 0 ≤ x) (h1 : x < 256) :
    Calls Try.prog 30 #[.agg #[.map (some b)], .int .i64 x] w fun e w' => e = .returned (.int .i64 (cyrOf x)) ∧ Below w.heap.size w w' := by
  have him1 := him.alloc (.cells #[.map (some b)] 55)
  have hlk := (him1.lookup (t := 53) Try.underlying53 Try.underlying3 (.int .i64 0) (zInt _) x).2
  rw [iv_get] at hlk
  have he : ((iget fiveL x).map (Value.int .i64)).getD (.int .i64 0) = .int .i64 ((iget fiveL x).getD 0) := by cases iget fiveL x <;> rfl
  rw [he] at hlk
  obtain ⟨y, hy⟩ : ∃ y, (iget fiveL x).getD 0 = y := ⟨_, rfl⟩
  rw [hy] at hlk
  by_cases hc : x < 161 ∨ x = 173 ∨ y ≠ 0
  · have HP := Lib.hid (show cyrOf x = plainOf fiveL x by unfold cyrOf; rw [if_pos (by rw [hy]; exact hc)])
    clear hy he
    have HI := Lib.hid him1
    by_cases c1 : x < 161
    · clear hc
      go_enter Try.func30, Try.ntmps30
      go_wp2_with (go_at_call 29; refine (single_plain b fiveL x _ HI.out).mono ?_; rintro e w1 ⟨rfl, hb1⟩)
      go_ret
      exact ⟨by rw [HP.out]; rfl, ((Below.refl _ _).alloc (Nat.le_refl _) _).trans (hb1.mono (by simp))⟩
    · by_cases c2 : x = 173
      · have hx : (x == 173) = true := by simp [c2]
        have hlt : ¬ x < 161 := c1
        clear hc c2
        go_enter Try.func30, Try.ntmps30
        go_wp2_with (go_at_call 29; refine (single_plain b fiveL x _ HI.out).mono ?_; rintro e w1 ⟨rfl, hb1⟩)
        go_ret
        exact ⟨by rw [HP.out]; rfl, ((Below.refl _ _).alloc (Nat.le_refl _) _).trans (hb1.mono (by simp))⟩
      · have hx : (x == 173) = false := by simpa using c2
        have hy0 : (y != 0) = true := by simp; omega
        clear hc c2
        go_enter Try.func30, Try.ntmps30
        go_wp2_with (go_at_call 29; refine (single_plain b fiveL x _ HI.out).mono ?_; rintro e w1 ⟨rfl, hb1⟩)
        go_ret
        exact ⟨by rw [HP.out]; rfl, ((Below.refl _ _).alloc (Nat.le_refl _) _).trans (hb1.mono (by simp))⟩
  · have HP := Lib.hid (show cyrOf x = x - 160 + 1024 by unfold cyrOf; rw [if_neg (by rw [hy]; exact hc)])
    have hx : (x == 173) = false := by simp; omega
    have hlt : ¬ x < 161 := by omega
    have hy0 : (y != 0) = false := by simp; omega
    clear hy he hc
    go_enter Try.func30, Try.ntmps30
    go_wp2
    go_ret
    exact ⟨by rw [HP.out]; rfl, (Below.refl _ _).alloc (Nat.le_refl _) _⟩
theorem zFun (w : World) : (zeroValue 41).run Try.prog w = .ok .nilFunc w := by kernel_rfl
/-- the encoding's telling, looked up. -/
theorem look_yes {w : World} {b : Nat} {b1 b2 b3 : Nat} (im : IMap w .i8 b [(3, fv 29 b1), (4, fv 30 b2), (5, fv 29 b3)]) :
    (Instr.lookup 43 (.map (some b)) (.int .i8 3) true).run Try.prog w = .ok (.tuple #[.func (.func 29) #[.agg #[.map (some b1)]] #[], .bool true]) w ∧
    (Instr.lookup 43 (.map (some b)) (.int .i8 4) true).run Try.prog w = .ok (.tuple #[.func (.func 30) #[.agg #[.map (some b2)]] #[], .bool true]) w ∧
    (Instr.lookup 43 (.map (some b)) (.int .i8 5) true).run Try.prog w = .ok (.tuple #[.func (.func 29) #[.agg #[.map (some b3)]] #[], .bool true]) w :=
  ⟨(im.lookup (t := 43) Try.underlying43 Try.underlying22 _ (zFun _) 3).1, (im.lookup (t := 43) Try.underlying43 Try.underlying22 _ (zFun _) 4).1, (im.lookup (t := 43) Try.underlying43 Try.underlying22 _ (zFun _) 5).1⟩
theorem look_no {w : World} {b : Nat} {v1 v2 v3 : Value} (im : IMap w .i8 b [(3, v1), (4, v2), (5, v3)]) (e : Int) (he : isEnc e = false) :
    (Instr.lookup 43 (.map (some b)) (.int .i8 e) true).run Try.prog w = .ok (.tuple #[.nilFunc, .bool false]) w := by
  have h := (im.lookup (t := 43) Try.underlying43 Try.underlying22 _ (zFun _) e).1
  have hn := of_decide_eq_false he
  have hg : aGet [(3, v1), (4, v2), (5, v3)] e = none := by
    simp only [aGet]
    rw [if_neg (by simp; omega), if_neg (by simp; omega), if_neg (by simp; omega)]
  rw [hg] at h
  exact h
def scalR (e b : Int) : Int := if isEnc e then encOf e b else 0
set_option maxHeartbeats 1000000 in
theorem single_Scalar (e b : Int) (w : World) (h0 : 0 ≤ b) (h1 : b < 256) :
    Calls Try.prog 7 #[.int .i8 e, .int .u8 b] w fun r w' => r = .returned (.tuple #[.int .i64 (scalR e b), .bool (isEnc e)]) ∧ Below w.heap.size w w' := by
  cases he : isEnc e with
  | false =>
    have HE := Lib.hid he
    have HR := Lib.hid (show scalR e b = 0 by unfold scalR; rw [he]; rfl)
    go_enter Try.func7, Try.ntmps7
    go_wp2_with (go_at_call 19; refine (single_codecs _).mono ?_; rintro e' w1 ⟨bm, b1, b2, b3, rfl, im, i1, i2, i3, hb1⟩; have hlk := look_no im e HE.out)
    go_ret2
    exact ⟨by rw [HR.out]; rfl, hb1⟩
  | true =>
    have hc := of_decide_eq_true he
    rcases hc with rfl | rfl | rfl
    · have HR := Lib.hid (show scalR 3 b = plainOf winL b from rfl)
      go_enter Try.func7, Try.ntmps7
      go_wp2_with (first
        | (go_at_call 19; refine (single_codecs _).mono ?_; rintro e' w1 ⟨bm, b1, b2, b3, rfl, im, i1, i2, i3, hb1⟩; have hlk := (look_yes im).1)
        | (go_at_call 29; refine (single_plain _ _ _ _ i1).mono ?_; rintro e' w2 ⟨rfl, hb2⟩))
      go_ret2
      exact ⟨by rw [HR.out]; rfl, hb1.trans (hb2.mono hb1.size)⟩
    · have HR := Lib.hid (show scalR 4 b = cyrOf b from rfl)
      go_enter Try.func7, Try.ntmps7
      go_wp2_with (first
        | (go_at_call 19; refine (single_codecs _).mono ?_; rintro e' w1 ⟨bm, b1, b2, b3, rfl, im, i1, i2, i3, hb1⟩; have hlk := (look_yes im).2.1)
        | (go_at_call 30; refine (single_cyrillic _ _ _ i2 h0 h1).mono ?_; rintro e' w2 ⟨rfl, hb2⟩))
      go_ret2
      exact ⟨by rw [HR.out]; rfl, hb1.trans (hb2.mono hb1.size)⟩
    · have HR := Lib.hid (show scalR 5 b = plainOf nineL b from rfl)
      go_enter Try.func7, Try.ntmps7
      go_wp2_with (first
        | (go_at_call 19; refine (single_codecs _).mono ?_; rintro e' w1 ⟨bm, b1, b2, b3, rfl, im, i1, i2, i3, hb1⟩; have hlk := (look_yes im).2.2)
        | (go_at_call 29; refine (single_plain _ _ _ _ i3).mono ?_; rintro e' w2 ⟨rfl, hb2⟩))
      go_ret2
      exact ⟨by rw [HR.out]; rfl, hb1.trans (hb2.mono hb1.size)⟩
end Go.Proofs.Ytnpglglhhjjehaa
