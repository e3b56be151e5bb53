/-
  The walk of utf8.Text.
-/
import Derived.Test.YtnpglglhhjjehaaU8D
namespace Go.Proofs.Ytnpglglhhjjehaa
open Go.RowKit
set_option maxHeartbeats 1000000 in
theorem utf8_Text (v : Value) (xs : List Int) (B : Nat) (w : World) (hr : Reads B w v (xs.map (Value.int .i64))) (hB : B ≤ w.heap.size) (hl : xs.length ≤ 137438953472) :
    Calls Try.prog 24 #[v] w fun e w' => e = .returned (.tuple #[.string (textS xs), .bool (scAll xs)]) ∧ Below w.heap.size w w' := by
  obtain ⟨_, a, cap, rfl, hc⟩ := hr
  rw [List.length_map] at *
  go_enter Try.func24, Try.ntmps24
  go_wp2_with fail
  go_loopw [4, 11] (fun v i wr => TextAt xs w v i wr) (fun _ i _ => xs.length - (intOf i).toNat)
  case atStart => exact ⟨0, rfl, by omega, rfl, World.ownsRow_nil _ _ _ _, Below.refl _ _⟩
  case round =>
    obtain ⟨k, rfl, hk, hok, hown, hb⟩ := hrel
    by_cases hlt : k < xs.length
    · obtain ⟨b, off, rfl, hbB, hcell⟩ : ∃ b off, a = some ⟨b, off, none⟩ ∧ b < B ∧ ∀ i (h : i < xs.length), w.cell? ⟨b, off + i, none⟩ = some (.int .i64 xs[i]) := by
        rcases hc with h | ⟨b, off, e, hb, h⟩
        · rw [List.map_eq_nil_iff] at h; subst h; simp at hlt
        · exact ⟨b, off, e, hb, fun i hi => by rw [h i (by rw [List.length_map]; exact hi), List.getElem_map]⟩
      have hc1 : wr.cell? ⟨b, off + k, none⟩ = some (.int .i64 xs[k]) := (hb.cell (p := ⟨b, off + k, none⟩) (by exact Nat.lt_of_lt_of_le hbB hB)).trans (hcell k hlt)
      obtain ⟨x, hx⟩ : ∃ x, xs[k] = x := ⟨_, rfl⟩
      rw [hx] at hc1
      clear hc hcell
      cases hsx : isSc x with
      | false =>
        have hall : scAll xs = false := scAll_take hlt (by rw [hx]; exact hsx)
        have HT := Lib.hid (textS_no hall)
        have HA := Lib.hid hall
        have HS := Lib.hid hsx
        clear hall hsx hok hx
        go_wp2_with (go_at_call 31; refine (utf8_Put x _).mono ?_; rw [HS.out]; rintro e w' ⟨rfl, hb2⟩)
        go_ret2
        exact ⟨by rw [HA.out, HT.out]; rfl, hb.trans (hb2.mono hb.size)⟩
      | true =>
        have hlen := encAll_len (xs.take k)
        rw [List.length_take, Nat.min_eq_left hk] at hlen
        have hel := encN_len x
        have hsz := encS_size x
        have hnew : xs.take (k + 1) = xs.take k ++ [x] := by rw [take_snoc xs k hlt, hx]
        have happ := fun (w' : World) (hb2 : Below wr.heap.size wr w') => app_str w' w.heap.size u4 _ _ (own_below hown hb2 (Nat.le_refl _)) (encS x) (by omega) (Nat.le_trans hb.size hb2.size)
        have hfin : ∀ (w1 : World) (v' i : Value), i = .int .i64 (k + 1 : Nat) → w1.ownsRow w.heap.size 5 1 v' ((encAll (xs.take k)).length + (encS x).size) ((encAll (xs.take k) ++ (encS x).data.toList.map fun c => (c.toNat : Int)).map (Value.int .u8)) → Below w.heap.size wr w1 → TextAt xs w v' i w1 := by
          intro w1 v' i hi ho hb1
          rw [encS_nums, encS_size, ← encAll_snoc, ← hnew] at ho
          refine ⟨k + 1, hi, hlt, by rw [hnew, scAll_snoc, hok, hsx]; rfl, ?_, hb.trans hb1⟩
          have e : (encAll (xs.take (k + 1))).length = (encAll (xs.take k)).length + (encN x).length := by rw [hnew, encAll_snoc, List.length_append]
          rw [e]; exact ho
        have HS := Lib.hid hsx
        have HF := Lib.hid hfin
        have HAp := Lib.hid happ
        clear hsx hfin happ hnew hsz hel hlen hown hok hx
        go_wp2_with (first
          | (at_builtin; refine wpList_append_run rfl _ _ _ _ rfl _ _ rfl rfl _ _ HR.out ?_)
          | (go_at_call 31; refine (utf8_Put x _).mono ?_; rw [HS.out]; rintro e w' ⟨rfl, hb2⟩; obtain ⟨v', w1, hr, ho1, hb1⟩ := HAp.out w' hb2; have HR := Lib.hid hr; clear hr))
        exact ⟨HF.out _ _ _ (by go_num) ho1 ((hb2.mono hb.size).trans hb1), by simp [intOf]; omega⟩
    · obtain rfl : k = xs.length := by omega
      rw [List.take_length] at hok hown
      have hconv := conv_own wr w.heap.size u4 _ _ hown
      have HT := Lib.hid (textS_yes hok)
      have HA := Lib.hid hok
      clear hown hok hc
      go_wp2
      go_ret2
      exact ⟨by rw [HT.out, HA.out]; rfl, hb⟩
end Go.Proofs.Ytnpglglhhjjehaa
