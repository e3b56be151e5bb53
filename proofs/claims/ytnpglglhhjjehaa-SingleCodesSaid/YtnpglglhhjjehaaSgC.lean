/-
  The walks of single: Table, back, Byte.
-/
import Derived.Test.YtnpglglhhjjehaaSgB
import Derived.Test.YtnpglglhhjjehaaSgQ
namespace Go.Proofs.Ytnpglglhhjjehaa
open Go.RowKit
def TabAt (e : Int) (w : World) (v x : Value) (wr : World) : Prop :=
  ∃ k : Nat, x = .int .i64 k ∧ k ≤ 256 ∧ wr.ownsRow w.heap.size 3 1 v k (((List.range k).map fun i => encOf e (i : Nat)).map (Value.int .i64)) ∧ Below w.heap.size w wr
set_option maxRecDepth 100000 in
set_option maxHeartbeats 2000000 in
theorem single_Table (e : Int) (w : World) :
    Calls Try.prog 11 #[.int .i8 e] w fun r w' => ∃ v, r = .returned v ∧ w'.ownsRow w.heap.size 3 1 v (tabL e).length ((tabL e).map (Value.int .i64)) ∧ Below w.heap.size w w' := by
  cases he : isEnc e with
  | false =>
    have HE := Lib.hid he
    have HT := Lib.hid (tabL_no he)
    go_enter Try.func11, Try.ntmps11
    go_wp2_with (go_at_call 19; refine (single_codecs _).mono ?_; rintro e' w1 ⟨bm, b1, b2, b3, rfl, im, i1, i2, i3, hb1⟩; have hlk := look_no im e HE.out)
    go_ret
    exact ⟨_, rfl, by rw [HT.out]; exact World.ownsRow_nil _ _ _ _, hb1⟩
  | true =>
    have hc := of_decide_eq_true he
    rcases hc with rfl | rfl | rfl
    · go_enter Try.func11, Try.ntmps11
      go_wp2_with (go_at_call 19; refine (single_codecs _).mono ?_; rintro e' w1 ⟨bm, b1, b2, b3, rfl, im, i1, i2, i3, hb1⟩; have hlk := (look_yes im).1)
      go_loopw [2, 14] (fun v x wr => TabAt 3 w v x wr ∧ IMap wr .i64 b1 (iv winL)) (fun _ x _ => 256 - (intOf x).toNat)
      case atStart => exact ⟨⟨0, rfl, by omega, World.ownsRow_nil _ _ _ _, hb1⟩, i1⟩
      case round =>
        obtain ⟨⟨k, rfl, hk, hown, hb⟩, hi⟩ := hrel
        by_cases hlt : k < 256
        · have happ := fun (w' : World) (hb2 : Below wr.heap.size wr w') => app_int_g w' w.heap.size u2 k ((List.range k).map fun i => encOf 3 (i : Nat)) (own_below hown hb2 (Nat.le_refl _)) (encOf 3 k) (by omega) (Nat.le_trans hb.size hb2.size)
          have HAp := Lib.hid happ
          have HO := Lib.hid hown
          clear happ hown
          go_wp2_with (first
            | (at_builtin; refine wpList_append_run rfl _ _ _ _ rfl _ _ rfl rfl _ _ HR.out ?_)
            | (go_at_call 29; refine (single_plain _ _ _ _ hi).mono ?_; rintro e' w2 ⟨rfl, hb2⟩; obtain ⟨v', w3, hr, ho1, hg3⟩ := HAp.out w2 hb2; have HR := Lib.hid (show _ = _ from hr); clear hr))
          rw [tab_snoc] at ho1
          have hown2 := (own_below HO.out hb2 (Nat.le_refl _)).alloc (.cells #[.int .i64 (encOf 3 k)] 3)
          have h13 := (hb2.mono hb.size).trans (((Below.refl w.heap.size w2).alloc (Nat.le_trans hb.size hb2.size) _).trans (ownBelow hown2 hg3 (Nat.le_refl _) (by have := hb.size; have := hb2.size; simp; omega)))
          exact ⟨⟨⟨k + 1, by go_num, by omega, ho1, hb.trans h13⟩, ((hi.below hb2 (Nat.le_refl _)).alloc _).row hown2 hg3⟩, by simp [intOf]; omega⟩
        · obtain rfl : k = 256 := by omega
          go_wp2
          go_ret
          exact ⟨_, rfl, by rw [tabL_len rfl, tabL_yes rfl]; exact hown, hb⟩
    · go_enter Try.func11, Try.ntmps11
      go_wp2_with (go_at_call 19; refine (single_codecs _).mono ?_; rintro e' w1 ⟨bm, b1, b2, b3, rfl, im, i1, i2, i3, hb1⟩; have hlk := (look_yes im).2.1)
      go_loopw [2, 14] (fun v x wr => TabAt 4 w v x wr ∧ IMap wr .i64 b2 (iv fiveL)) (fun _ x _ => 256 - (intOf x).toNat)
      case atStart => exact ⟨⟨0, rfl, by omega, World.ownsRow_nil _ _ _ _, hb1⟩, i2⟩
      case round =>
        obtain ⟨⟨k, rfl, hk, hown, hb⟩, hi⟩ := hrel
        by_cases hlt : k < 256
        · have happ := fun (w' : World) (hb2 : Below wr.heap.size wr w') => app_int_g w' w.heap.size u2 k ((List.range k).map fun i => encOf 4 (i : Nat)) (own_below hown hb2 (Nat.le_refl _)) (encOf 4 k) (by omega) (Nat.le_trans hb.size hb2.size)
          have HAp := Lib.hid happ
          have HO := Lib.hid hown
          clear happ hown
          go_wp2_with (first
            | (at_builtin; refine wpList_append_run rfl _ _ _ _ rfl _ _ rfl rfl _ _ HR.out ?_)
            | (go_at_call 30; refine (single_cyrillic _ _ _ hi (by omega) (by omega)).mono ?_; rintro e' w2 ⟨rfl, hb2⟩; obtain ⟨v', w3, hr, ho1, hg3⟩ := HAp.out w2 hb2; have HR := Lib.hid (show _ = _ from hr); clear hr))
          rw [tab_snoc] at ho1
          have hown2 := (own_below HO.out hb2 (Nat.le_refl _)).alloc (.cells #[.int .i64 (encOf 4 k)] 3)
          have h13 := (hb2.mono hb.size).trans (((Below.refl w.heap.size w2).alloc (Nat.le_trans hb.size hb2.size) _).trans (ownBelow hown2 hg3 (Nat.le_refl _) (by have := hb.size; have := hb2.size; simp; omega)))
          exact ⟨⟨⟨k + 1, by go_num, by omega, ho1, hb.trans h13⟩, ((hi.below hb2 (Nat.le_refl _)).alloc _).row hown2 hg3⟩, by simp [intOf]; omega⟩
        · obtain rfl : k = 256 := by omega
          go_wp2
          go_ret
          exact ⟨_, rfl, by rw [tabL_len rfl, tabL_yes rfl]; exact hown, hb⟩
    · go_enter Try.func11, Try.ntmps11
      go_wp2_with (go_at_call 19; refine (single_codecs _).mono ?_; rintro e' w1 ⟨bm, b1, b2, b3, rfl, im, i1, i2, i3, hb1⟩; have hlk := (look_yes im).2.2)
      go_loopw [2, 14] (fun v x wr => TabAt 5 w v x wr ∧ IMap wr .i64 b3 (iv nineL)) (fun _ x _ => 256 - (intOf x).toNat)
      case atStart => exact ⟨⟨0, rfl, by omega, World.ownsRow_nil _ _ _ _, hb1⟩, i3⟩
      case round =>
        obtain ⟨⟨k, rfl, hk, hown, hb⟩, hi⟩ := hrel
        by_cases hlt : k < 256
        · have happ := fun (w' : World) (hb2 : Below wr.heap.size wr w') => app_int_g w' w.heap.size u2 k ((List.range k).map fun i => encOf 5 (i : Nat)) (own_below hown hb2 (Nat.le_refl _)) (encOf 5 k) (by omega) (Nat.le_trans hb.size hb2.size)
          have HAp := Lib.hid happ
          have HO := Lib.hid hown
          clear happ hown
          go_wp2_with (first
            | (at_builtin; refine wpList_append_run rfl _ _ _ _ rfl _ _ rfl rfl _ _ HR.out ?_)
            | (go_at_call 29; refine (single_plain _ _ _ _ hi).mono ?_; rintro e' w2 ⟨rfl, hb2⟩; obtain ⟨v', w3, hr, ho1, hg3⟩ := HAp.out w2 hb2; have HR := Lib.hid (show _ = _ from hr); clear hr))
          rw [tab_snoc] at ho1
          have hown2 := (own_below HO.out hb2 (Nat.le_refl _)).alloc (.cells #[.int .i64 (encOf 5 k)] 3)
          have h13 := (hb2.mono hb.size).trans (((Below.refl w.heap.size w2).alloc (Nat.le_trans hb.size hb2.size) _).trans (ownBelow hown2 hg3 (Nat.le_refl _) (by have := hb.size; have := hb2.size; simp; omega)))
          exact ⟨⟨⟨k + 1, by go_num, by omega, ho1, hb.trans h13⟩, ((hi.below hb2 (Nat.le_refl _)).alloc _).row hown2 hg3⟩, by simp [intOf]; omega⟩
        · obtain rfl : k = 256 := by omega
          go_wp2
          go_ret
          exact ⟨_, rfl, by rw [tabL_len rfl, tabL_yes rfl]; exact hown, hb⟩
end Go.Proofs.Ytnpglglhhjjehaa
