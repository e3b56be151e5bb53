/-
  The walk of layer 5's statement LabelOnce.
-/
import Derived.Test.YtaheooedcjjckaaDoorLaH
namespace Go.Proofs.YtaheooedcjjckaaDoor
open Go.RowKit
def onceB (a b : Nat) : Bool := (List.range (labL a).length).all fun i => (List.range (labL b).length).all fun j => !(((labL a).getD i ⟨#[]⟩).toList == ((labL b).getD j ⟨#[]⟩).toList) || (a == b && i == j)
theorem once_all : ((List.range 6).all fun a => (List.range 6).all fun b => onceB a b) = true := by kernel_rfl
theorem labL_out {e : Int} (h : ¬ (0 ≤ e ∧ e < 6)) : labL e = [] := by
  unfold labL
  rw [if_neg (by omega), if_neg (by omega), if_neg (by omega), if_neg (by omega), if_neg (by omega), if_neg (by omega)]
theorem once_at (a b : Int) (i j : Nat) (hi : i < (labL a).length) (hj : j < (labL b).length) (h : ((labL a)[i].toList == (labL b)[j].toList) = true) : a = b ∧ i = j := by
  by_cases ha : 0 ≤ a ∧ a < 6
  · by_cases hb : 0 ≤ b ∧ b < 6
    · obtain ⟨n, rfl⟩ : ∃ n : Nat, a = n := ⟨a.toNat, by omega⟩
      obtain ⟨m, rfl⟩ : ∃ n : Nat, b = n := ⟨b.toNat, by omega⟩
      have h1 := List.all_eq_true.1 (List.all_eq_true.1 once_all n (List.mem_range.2 (by omega))) m (List.mem_range.2 (by omega))
      unfold onceB at h1
      have h2 := List.all_eq_true.1 (List.all_eq_true.1 h1 i (List.mem_range.2 hi)) j (List.mem_range.2 hj)
      rw [List.getD_eq_getElem?_getD, List.getD_eq_getElem?_getD, List.getElem?_eq_getElem hi, List.getElem?_eq_getElem hj, Option.getD_some, Option.getD_some, h] at h2
      simp at h2
      exact ⟨by omega, h2.2⟩
    · rw [labL_out hb] at hj; simp at hj
  · rw [labL_out ha] at hi; simp at hi
set_option maxHeartbeats 1000000 in
theorem law_LabelOnce (a b : Int) (w : World) (ht : TabAt w) :
    Calls Tryd.prog 5 #[.int .i8 a, .int .i8 b] w fun e w' => e = .returned (.bool true) ∧ Below w.heap.size w w' := by
  have HW := Lib.hid (fun (u : World) (h : TabAt u) => law05_wakes u h)
  have HM := Lib.hid ht
  clear ht
  have HO := Lib.hid (once_at a b)
  have la := labL_len a
  have lb := labL_len b
  have A1 := Lib.hid (fun u hu => label_All a u hu)
  have A2 := Lib.hid (fun u hu => label_All b u hu)
  obtain ⟨LA, hLA⟩ : ∃ L, labL a = L := ⟨_, rfl⟩
  obtain ⟨LB, hLB⟩ : ∃ L, labL b = L := ⟨_, rfl⟩
  rw [hLA] at HO A1 la
  rw [hLB] at HO A2 lb
  clear hLA hLB
  have hB := Below.refl w.heap.size w
  go_enter Tryd.func5, Tryd.ntmps5
  go_wp2_with fail
  refine (A1.out _ HM.out).mono ?_
  rintro e w1 ⟨v, rfl, hr, hb1⟩
  have hB1 := bt hB hb1
  obtain ⟨a1, cap1, rfl, hc1⟩ := hr.texts
  have C1 := Lib.hid hc1
  clear hr hc1
  go_wp2_with fail
  go_loopw [12] (fun i wr => ∃ k : Nat, i = .int .i64 k ∧ k ≤ LA.length ∧ Below w1.heap.size w1 wr) (fun i _ => LA.length - (intOf i).toNat)
  case atStart => exact ⟨0, rfl, by omega, Below.refl _ _⟩
  case round =>
    obtain ⟨i, rfl, hi, hbw⟩ := hrel
    have hBw := bt hB1 hbw
    by_cases hlt : i < LA.length
    · obtain ⟨g1, o1, rfl, hg1, e1⟩ := C1.out i hlt
      have e1 := (hbw.cell (p := ⟨g1, o1 + i, none⟩) hg1).trans e1
      obtain ⟨X, hX⟩ : ∃ X, LA[i] = X := ⟨_, rfl⟩
      rw [hX] at e1
      have HO2 := Lib.hid (show ∀ j (hj : j < LB.length), (X.toList == LB[j].toList) = true → a = b ∧ i = j from fun j hj h => HO.out i j hlt hj (by rw [hX]; exact h))
      clear hX
      go_wp2_with fail
      refine (A2.out _ (HM.out.below hBw)).mono ?_
      rintro e w2 ⟨v, rfl, hr, hb2⟩
      have hB2 := bt hbw hb2
      obtain ⟨a2, cap2, rfl, hc2⟩ := hr.texts
      have C2 := Lib.hid hc2
      clear hr hc2
      go_wp2_with fail
      go_loop [20] (fun i => ∃ k : Nat, i = .int .i64 k ∧ k ≤ LB.length) (fun i => LB.length - (intOf i).toNat)
      case atStart => exact ⟨0, rfl, by omega⟩
      case round =>
        obtain ⟨j, rfl, hj⟩ := hrel
        by_cases hjl : j < LB.length
        · obtain ⟨g2, o2, rfl, hg2, e2⟩ := C2.out j hjl
          have HO3 := Lib.hid (HO2.out j hjl)
          obtain ⟨Y, hY⟩ : ∃ X, LB[j] = X := ⟨_, rfl⟩
          rw [hY] at e2 HO3
          clear hY
          cases hq : X.toList == Y.toList with
          | true =>
            obtain ⟨rfl, rfl⟩ := HO3.out hq
            have q1 : (a != a) = false := by simp
            have q2 : ((i : Int) != (i : Int)) = false := by simp
            go_wp2_with fail
            exact ⟨⟨i + 1, by go_num, by omega⟩, by simp [intOf]; omega⟩
          | false =>
            go_wp2_with fail
            exact ⟨⟨j + 1, by go_num, by omega⟩, by simp [intOf]; omega⟩
        · go_wp2_with fail
          exact ⟨⟨i + 1, by go_num, by omega, hB2⟩, by simp [intOf]; omega⟩
    · go_wp2_with fail
      refine (HW.out _ (HM.out.below hBw)).mono ?_
      rintro e w9 ⟨rfl, hb9⟩
      go_wp2
      go_ret
      exact ⟨rfl, bt hBw hb9⟩
end Go.Proofs.YtaheooedcjjckaaDoor
