/-
  Layer 6: the walk of the reference's Great.
-/
import Derived.Test.YtjemlaiciacnpaaMoA
import Derived.Deep.RegionHeld3
namespace Go.Proofs.Ytjemlaiciacnpaa
open Go.RowKit
def sumM (qs : List (ByteArray × ByteArray)) : Nat := (qs.map fun q => min q.1.size 5000 + min q.2.size 5000).sum
def sumS (qs : List (ByteArray × ByteArray)) : Nat := (qs.map fun q => q.1.size + q.2.size).sum
theorem sumM_le : ∀ qs : List (ByteArray × ByteArray), sumM qs ≤ 10000 * qs.length
  | [] => by simp [sumM]
  | q :: r => by
    have := sumM_le r
    unfold sumM at *
    rw [List.map_cons, List.sum_cons, List.length_cons]
    omega
theorem sumM_small : ∀ qs : List (ByteArray × ByteArray), sumM qs ≤ 3000 → sumS qs = sumM qs
  | [], _ => rfl
  | q :: r, h => by
    unfold sumM at h
    rw [List.map_cons, List.sum_cons] at h
    have := sumM_small r (by unfold sumM; omega)
    unfold sumM sumS at *
    rw [List.map_cons, List.sum_cons, List.map_cons, List.sum_cons, this]
    omega
theorem sumM_snoc (qs : List (ByteArray × ByteArray)) (k : Nat) (q : ByteArray × ByteArray) (h : qs[k]? = some q) : sumM (qs.take (k + 1)) = sumM (qs.take k) + (min q.1.size 5000 + min q.2.size 5000) := by
  have hk := (List.getElem?_eq_some_iff.1 h).1
  have he := (List.getElem?_eq_some_iff.1 h).2
  rw [List.take_succ_eq_append_getElem hk, he]
  unfold sumM
  rw [List.map_append, List.sum_append]
  simp
set_option maxRecDepth 100000 in
set_option maxHeartbeats 4000000 in
theorem ref06_Great (B : Nat) (t : ByteArray) (v : Value) (qs : List (ByteArray × ByteArray)) (w : World) (hr : CReads B w v qs.length (pairCells qs)) (hB : B ≤ w.heap.size) (ht : t.size ≤ 140737488351232) (hl : qs.length ≤ 140737488351232) :
    Calls Try.prog 17 #[.agg #[.string t, v]] w fun e w' => ∃ b, e = .returned (.bool b) ∧ Below w.heap.size w w' ∧ (b = false → qs.length ≤ 60 ∧ t.size + sumS qs ≤ 3000) := by
  have hr0 := hr
  obtain ⟨a, cap, rfl, -⟩ := hr0
  obtain ⟨N, hN⟩ : ∃ N, qs.length = N := ⟨_, rfl⟩
  rw [hN] at hr hl ⊢
  have hb := (Below.refl w.heap.size w).alloc (Nat.le_refl _) (.cells #[.string t, .slice a N cap] 25)
  have hn1 := BlkAt.new w #[.string t, .slice a N cap] 25
  go_enter Try.func17, Try.ntmps17
  have hc0 := hn1.cell 0 rfl
  go_wp2_with fail
  obtain ⟨bm, hbm⟩ : ∃ bm, w.heap.size = bm := ⟨_, rfl⟩
  rw [hbm] at hn1 hb
  generalize w.alloc (.cells #[.string t, .slice a N cap] 25) = w1 at hn1 hb ⊢
  clear hc0
  go_loopw [3, 4] (fun n i wr => ∃ k : Nat, i = .int .i64 k ∧ k ≤ N ∧ k ≤ 61 ∧ n = .int .i64 ((t.size + sumM (qs.take k) : Nat) : Int) ∧ BlkAt wr bm #[.string t, .slice a N cap] ∧ Below bm w wr) (fun _ i _ => N - (intOf i).toNat)
  case atStart => exact ⟨0, rfl, by omega, by omega, by simp [sumM], hn1, hb⟩
  case round =>
    clear hn1 hb
    obtain ⟨k, rfl, hk, hk6, rfl, hn1, hb⟩ := hrel
    have hcc := hn1.cell 1 rfl
    have hsl := sumM_le (qs.take k)
    rw [List.length_take] at hsl
    by_cases hlt : k < N
    · have d1 := decide_eq_true (show (k : Int) < (N : Int) by omega)
      by_cases h60 : k ≤ 60
      · have d2 := decide_eq_true (show (k : Int) ≤ 60 by omega)
        obtain ⟨b, off, cap', q1, q2, hv, hq, -, hw0, hw1⟩ := hr.pair hb (by omega) k (by omega)
        cases hv
        have hss := sumM_snoc qs k (q1, q2) hq
        obtain ⟨S, hS⟩ : ∃ S, t.size + sumM (qs.take k) = S := ⟨_, rfl⟩
        have hS2 : t.size + sumM (qs.take (k + 1)) = S + (min q1.size 5000 + min q2.size 5000) := by rw [hss, ← hS, Nat.add_assoc]
        rw [hS]
        have hSl : S ≤ 140737489000000 := by omega
        have HS2 := Lib.hid hS2
        clear hss hS hS2 hq hsl
        obtain ⟨A1, hA1, hl1⟩ : ∃ n : Nat, min (q1.size : Int) 5000 = (n : Int) ∧ n = min q1.size 5000 := ⟨_, by omega, rfl⟩
        obtain ⟨A2, hA2, hl2⟩ : ∃ n : Nat, min (q2.size : Int) 5000 = (n : Int) ∧ n = min q2.size 5000 := ⟨_, by omega, rfl⟩
        have b1 : A1 ≤ 5000 := by omega
        have b2 : A2 ≤ 5000 := by omega
        have HL1 := Lib.hid hl1
        have HL2 := Lib.hid hl2
        clear hl1 hl2
        go_wp2_with fail
        go_quiet (fail)
        go_wp2_with fail
        refine ⟨⟨k + 1, by go_num, by omega, by omega, ?_, hn1, below_dn hb _⟩, by simp [intOf]; omega⟩
        rw [HS2.out, ← HL1.out, ← HL2.out]
        have : (S : Int) + (A1 : Int) + (A2 : Int) = ((S + (A1 + A2) : Nat) : Int) := by omega
        rw [this]
      · have d2 := decide_eq_false (show ¬ (k : Int) ≤ 60 by omega)
        have d3 := decide_eq_true (show (60 : Int) < (N : Int) by omega)
        clear hr
        go_wp2_with fail
        go_ret
        exact ⟨true, rfl, by rw [← hbm] at hb; exact hb, fun h => by cases h⟩
    · have d1 := decide_eq_false (show ¬ (k : Int) < (N : Int) by omega)
      obtain rfl : k = N := by omega
      rw [List.take_of_length_le (by omega)] at hsl ⊢
      have hsm := sumM_small qs
      obtain ⟨S, hS⟩ : ∃ S, t.size + sumM qs = S := ⟨_, rfl⟩
      rw [hS]
      by_cases h6 : 60 < k
      · have d3 := decide_eq_true (show (60 : Int) < (k : Int) by omega)
        clear hr
        go_wp2_with fail
        go_ret
        exact ⟨true, rfl, by rw [← hbm] at hb; exact hb, fun h => by cases h⟩
      · have d3 := decide_eq_false (show ¬ (60 : Int) < (k : Int) by omega)
        by_cases h3 : 3000 < S
        · have d4 := decide_eq_true (show (3000 : Int) < (S : Int) by omega)
          clear hr
          go_wp2_with fail
          go_ret
          exact ⟨true, rfl, by rw [← hbm] at hb; exact hb, fun h => by cases h⟩
        · have d4 := decide_eq_false (show ¬ (3000 : Int) < (S : Int) by omega)
          have HF := Lib.hid (show t.size + sumS qs ≤ 3000 by rw [hsm (by omega)]; omega)
          clear hr hsm
          go_wp2_with fail
          go_ret
          exact ⟨false, rfl, by rw [← hbm] at hb; exact hb, fun _ => ⟨by omega, HF.out⟩⟩
end Go.Proofs.Ytjemlaiciacnpaa
