/-
  The walks of chars: within, Char, First, Further, Space, and the reference's.
-/
import Derived.Test.YtkdkoondchbekaaChQ
import Derived.Test.YtkdkoondchbekaaSl
import Derived.Laws.Rows
namespace Go.Proofs.Ytkdkoondchbekaa
open Go.RowKit
/-- a row of ranges, cell by cell. -/
def rngCells (L : List (Int × Int)) : List Value := L.flatMap fun x => [.int .i64 x.1, .int .i64 x.2]
theorem rngCells_at : ∀ (L : List (Int × Int)) (k : Nat) (h : k < L.length), (rngCells L)[2 * k]? = some (.int .i64 L[k].1) ∧ (rngCells L)[2 * k + 1]? = some (.int .i64 L[k].2)
  | [], k, h => by simp at h
  | x :: r, 0, h => by simp [rngCells]
  | x :: r, k + 1, h => by
    have := rngCells_at r k (by simpa using h)
    rw [show 2 * (k + 1) = 2 * k + 2 by omega, show 2 * k + 2 + 1 = (2 * k + 1) + 2 by omega]
    simpa [rngCells] using this
theorem anyR_no {r : Int} {L : List (Int × Int)} (h : ∀ i (_ : i < L.length), ¬ (L[i].1 ≤ r ∧ r ≤ L[i].2)) : anyR r L = false := by
  cases e : anyR r L with
  | false => rfl
  | true =>
    obtain ⟨x, hx, h1⟩ := (anyR_iff r L).1 e
    obtain ⟨i, hi, rfl⟩ := List.getElem_of_mem hx
    exact absurd h1 (h i hi)
theorem anyR_at {r : Int} {L : List (Int × Int)} (i : Nat) (hi : i < L.length) (h1 : L[i].1 ≤ r) (h2 : r ≤ L[i].2) : anyR r L = true := (anyR_iff r L).2 ⟨_, List.getElem_mem hi, h1, h2⟩
set_option maxHeartbeats 1000000 in
theorem chars_within (r : Int) (L : List (Int × Int)) (b : Nat) (cs : Array Value) (T : TypeId) (w : World) (hb : w.heap[b]? = some (.cells cs T (0, 0))) (hcs : cs.toList = rngCells L) (hL : L.length ≤ 100) :
    Calls Try.prog 54 #[.int .i64 r, .slice (some ⟨b, 0, none⟩) L.length L.length] w fun e w' => e = .returned (.bool (anyR r L)) ∧ Below w.heap.size w w' := by
  have hbw : b < w.heap.size := (Array.getElem?_eq_some_iff.1 hb).1
  have hcell : ∀ k (h : k < L.length), w.cell? ⟨b, k * 2, none⟩ = some (.int .i64 L[k].1) ∧ w.cell? ⟨b, k * 2 + 1, none⟩ = some (.int .i64 L[k].2) := by
    intro k h
    have := rngCells_at L k h
    rw [← hcs, Array.getElem?_toList, Array.getElem?_toList, Nat.mul_comm 2 k] at this
    rw [cell_of_row w b _ _ _ _ hb, cell_of_row w b _ _ _ _ hb]
    exact this
  have HC := Lib.hid hcell
  clear hcell hb hcs
  go_enter Try.func54, Try.ntmps54
  go_wp2_with fail
  go_loopw [9] (fun i wr => ∃ k : Nat, i = .int .i64 k ∧ k ≤ L.length ∧ (∀ j (_ : j < L.length), j < k → ¬ (L[j].1 ≤ r ∧ r ≤ L[j].2)) ∧ Below w.heap.size w wr) (fun i _ => L.length - (intOf i).toNat)
  case atStart => exact ⟨0, rfl, by omega, fun j _ h => by omega, Below.refl _ _⟩
  case round =>
    obtain ⟨k, rfl, hk, hno, hbl⟩ := hrel
    have HN := Lib.hid hno
    clear hno
    by_cases hlt : k < L.length
    · obtain ⟨h1, h2⟩ := HC.out k hlt
      have hc1 := (hbl.cell (p := ⟨b, k * 2, none⟩) hbw).trans h1
      have hc2 := (hbl.cell (p := ⟨b, k * 2 + 1, none⟩) hbw).trans h2
      clear h1 h2
      obtain ⟨x, hx⟩ : ∃ x, L[k].1 = x := ⟨_, rfl⟩
      obtain ⟨y, hy⟩ : ∃ y, L[k].2 = y := ⟨_, rfl⟩
      rw [hx] at hc1
      rw [hy] at hc2
      have HX := Lib.hid hx
      have HY := Lib.hid hy
      clear hx hy
      have hstep : ∀ W, Below w.heap.size wr W → ¬ (x ≤ r ∧ r ≤ y) → (∃ k_1 : Nat, Value.int IntKind.i64 (↑k + 1) = Value.int IntKind.i64 ↑k_1 ∧ k_1 ≤ L.length ∧ (∀ (j : Nat) (x : j < L.length), j < k_1 → ¬(L[j].fst ≤ r ∧ r ≤ L[j].snd)) ∧ Below w.heap.size w W) := by
        intro W hW hn
        refine ⟨k + 1, by go_num, hlt, fun j hj hjk => ?_, hbl.trans hW⟩
        by_cases e : j = k
        · subst e; rw [HX.out, HY.out]; exact hn
        · exact HN.out j hj (by omega)
      have HS := Lib.hid hstep
      have hA := (Below.refl w.heap.size wr).alloc hbl.size (Obj.cells #[Value.int IntKind.i64 x, Value.int IntKind.i64 y] 84)
      clear hstep
      go_wp2_with fail
      · go_ret
        exact ⟨ret_bool (anyR_at k hlt (by rw [HX.out]; assumption) (by rw [HY.out]; assumption)).symm, hbl.trans hA⟩
      · exact ⟨HS.out _ hA (by omega), by simp [intOf]; omega⟩
      · exact ⟨HS.out _ hA (by omega), by simp [intOf]; omega⟩
    · go_wp2_with fail
      go_ret
      exact ⟨ret_bool (anyR_no fun i hi => HN.out i hi (by omega)).symm, hbl⟩
theorem newRow (W : World) (b : Nat) (cs : Array Value) (T : TypeId) (hb : W.heap.size = b) : (W.alloc (.cells cs T)).heap[b]? = some (.cells cs T (0, 0)) := by subst hb; exact heap_alloc_new W _
set_option maxHeartbeats 1000000 in
theorem chars_Char (r : Int) (w : World) : Calls Try.prog 40 #[.int .i64 r] w fun e w' => e = .returned (.bool (chB r)) ∧ Below w.heap.size w w' := by
  go_enter Try.func40, Try.ntmps40
  go_wp2_with fail
  refine (chars_within r charL w.heap.size _ _ _ (newRow w _ _ _ rfl) rfl (by decide)).mono ?_
  rintro e w1 ⟨rfl, hb1⟩
  go_wp2
  go_ret
  exact ⟨rfl, ((Below.refl _ w).alloc (Nat.le_refl _) _).trans (hb1.mono (by simp))⟩
theorem ref09_within (r a b : Int) (w : World) : Calls Try.prog 42 #[.int .i64 r, .int .i64 a, .int .i64 b] w fun e w' => e = .returned (.bool (decide (a ≤ r ∧ r ≤ b))) ∧ w = w' := by
  go_enter Try.func42, Try.ntmps42
  go_wp2
  all_goals
    go_light
    go_ret
    refine ⟨ret_bool ?_, rfl⟩
    rw [Bool.eq_iff_iff]
    simp
    try omega
theorem ref09_Char (r : Int) (w : World) : Calls Try.prog 23 #[.int .i64 r] w fun e w' => e = .returned (.bool (chB r)) ∧ w = w' := by
  have HC := Lib.hid (chB_iff r)
  go_enter Try.func23, Try.ntmps23
  go_wp2_with (go_at_call 42; refine (ref09_within _ _ _ _).mono ?_; rintro e w' ⟨rfl, rfl⟩)
  all_goals
    go_light
    (try simp only [beq_iff_eq, beq_eq_false_iff_ne] at *)
    go_ret
    refine ⟨ret_bool ?_, rfl⟩
    rw [Bool.eq_iff_iff, HC.out]
    simp
    try omega
end Go.Proofs.Ytkdkoondchbekaa
