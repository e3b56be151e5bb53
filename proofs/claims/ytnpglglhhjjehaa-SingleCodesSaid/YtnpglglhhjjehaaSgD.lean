/-
  The walks of single: back, Byte; which byte a scalar has.
-/
import Derived.Test.YtnpglglhhjjehaaSgC
import Derived.Test.YtnpglglhhjjehaaSgQ
namespace Go.Proofs.Ytnpglglhhjjehaa
open Go.RowKit
def ivb (L : List (Int × Int)) : List (Int × Value) := L.map fun p => (p.1, .int .u8 p.2)
theorem ivb_get (L : List (Int × Int)) (k : Int) : aGet (ivb L) k = (iget L k).map (Value.int .u8) := by
  induction L with
  | nil => rfl
  | cons p r ih =>
    show aGet ((p.1, Value.int .u8 p.2) :: ivb r) k = _
    rw [aGet, iget]
    split
    · rfl
    · exact ih
theorem ivb_put (L : List (Int × Int)) (k v : Int) : aPut (ivb L) k (.int .u8 v) = ivb (iput L k v) := by
  induction L with
  | nil => rfl
  | cons p r ih =>
    show aPut ((p.1, Value.int .u8 p.2) :: ivb r) k _ = _
    rw [aPut, iput]
    split
    · rfl
    · rw [ih]; rfl
set_option maxRecDepth 100000 in
set_option maxHeartbeats 2000000 in
theorem single_back (e : Int) (w : World) :
    Calls Try.prog 23 #[.int .i8 e] w fun r w' => ∃ b, r = .returned (.map (some b)) ∧ IMap w' .i64 b (ivb (backL e)) ∧ Below w.heap.size w w' := by
  have hmm := @run_makeMap Try.prog
  have hlen := tabL_le e
  obtain ⟨T, hT⟩ : ∃ T, tabL e = T := ⟨_, rfl⟩
  rw [hT] at hlen
  have HT := Lib.hid hT
  have HBk := Lib.hid (show backL e = backGo 0 [] T by unfold backL; rw [hT])
  clear hT
  go_enter Try.func23, Try.ntmps23
  go_wp2_with (go_at_call 11; refine (single_Table e _).mono ?_; rw [HT.out]; rintro e' w1 ⟨v, rfl, hown, hb1⟩; obtain ⟨a, cap, rfl, _, hc⟩ := (Reads.of_own hown (by unfold maxLen; omega)).open)
  have him := (IMap.made w .i64).below (hb1.mono (Nat.le_refl _)) (by simp)
  have hB1 : Below w.heap.size w w1 := ((Below.refl _ w).alloc (Nat.le_refl _) _).trans (hb1.mono (by simp))
  go_loopw [10] (fun x wr => ∃ k : Nat, x = .int .i64 k ∧ k ≤ T.length ∧ IMap wr .i64 w.heap.size (ivb (backGo 0 [] (T.take k))) ∧ w1.grownBy wr (some w.heap.size)) (fun x _ => T.length - (intOf x).toNat)
  case atStart => exact ⟨0, rfl, by omega, him, grown_refl _ _⟩
  case round =>
    obtain ⟨k, rfl, hk, him, hg⟩ := hrel
    by_cases hlt : k < T.length
    · obtain ⟨b, off, rfl, hbB, hcx⟩ := hc k hlt
      have hne : b ≠ w.heap.size := by have := (hown.lt b rfl).1; simp at this; omega
      have hcx1 := hg.cell hcx (by simpa using hne)
      obtain ⟨x, hx⟩ : ∃ x, T[k] = x := ⟨_, rfl⟩
      rw [hx] at hcx1
      have hs : backGo 0 [] (T.take (k + 1)) = iput (backGo 0 [] (T.take k)) x k := by
        rw [take_snocL T k hlt, hx, backGo_snoc, List.length_take, Nat.min_eq_left hk]; simp
      obtain ⟨w3, hr3, him3, hg3⟩ := him.update (t := 46) Try.underlying46 Try.underlying3 x (.int .u8 k)
      rw [ivb_put, ← hs] at him3
      have HR := Lib.hid hr3
      have hk256 : (k : Int) % 256 = k := by omega
      clear hr3 hs hx hc hcx hown
      go_wp2_with (at_mapUpdate; refine wpList_mapUpdate_run rfl _ _ _ _ (.inl rfl) _ _ _ rfl rfl rfl _ HR.out ?_)
      exact ⟨⟨k + 1, by go_num, by omega, him3, grown_trans hg hg3⟩, by simp [intOf]; omega⟩
    · obtain rfl : k = T.length := by omega
      rw [List.take_length] at him
      clear hc hown
      go_wp2
      go_ret
      exact ⟨_, rfl, by rw [HBk.out]; exact him, hB1.grown hg hB1.size (fun j e => by cases e; exact Nat.le_refl _)⟩
theorem zU8 (w : World) : (zeroValue 5).run Try.prog w = .ok (.int .u8 0) w := by kernel_rfl
set_option maxHeartbeats 1000000 in
theorem single_Byte (e x : Int) (w : World) :
    Calls Try.prog 9 #[.int .i8 e, .int .i64 x] w fun r w' => r = .returned (.tuple #[.int .u8 ((byteOf e x).getD 0), .bool (byteOf e x).isSome]) ∧ Below w.heap.size w w' := by
  have hbo := backL_get e x
  cases hy : byteOf e x with
  | none =>
    rw [hy] at hbo
    have HB := Lib.hid hbo
    go_enter Try.func9, Try.ntmps9
    go_wp2_with (go_at_call 23; refine (single_back e _).mono ?_; rintro e' w1 ⟨b, rfl, im, hb1⟩; have hlk := (im.lookup (t := 46) Try.underlying46 Try.underlying3 (.int .u8 0) (zU8 _) x).1; rw [ivb_get, HB.out] at hlk; simp only [Option.map_none, Option.getD_none, Option.isSome_none] at hlk)
    go_ret2
    exact ⟨rfl, hb1⟩
  | some y =>
    rw [hy] at hbo
    have HB := Lib.hid hbo
    go_enter Try.func9, Try.ntmps9
    go_wp2_with (go_at_call 23; refine (single_back e _).mono ?_; rintro e' w1 ⟨b, rfl, im, hb1⟩; have hlk := (im.lookup (t := 46) Try.underlying46 Try.underlying3 (.int .u8 0) (zU8 _) x).1; rw [ivb_get, HB.out] at hlk; simp only [Option.map_some, Option.getD_some, Option.isSome_some] at hlk)
    go_ret2
    exact ⟨rfl, hb1⟩
end Go.Proofs.Ytnpglglhhjjehaa
