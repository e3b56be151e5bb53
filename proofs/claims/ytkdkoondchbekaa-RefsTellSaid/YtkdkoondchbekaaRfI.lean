/-
  refs.Loose's contract.
-/
import Derived.Test.YtkdkoondchbekaaRfH
namespace Go.Proofs.Ytkdkoondchbekaa
open Go.RowKit Go.Shelf
attribute [local go_sem] Oper.semAt_some
theorem pr_plain {l : List Int} (a : Nat) (h : 38 ∉ l) : prN a l = if l = [] then [] else [(a, false, l)] := by
  cases l with
  | nil => rw [prN_nil, if_pos rfl]
  | cons c t =>
    have hc : c ≠ 38 := fun e => h (by rw [e]; exact List.mem_cons_self ..)
    rw [prN_run a t hc, runN_all h, List.drop_length, prN_nil, if_neg (by simp)]
theorem prN_ref_38 : ∀ (f : Nat) (l : List Int) (a : Nat), l.length ≤ f → ∀ p ∈ prN a l, p.2.1 = true → 38 ∉ p.2.2
  | _, [], a, _ => by rw [prN_nil]; simp
  | 0, _ :: _, _, h => by simp at h
  | f + 1, c :: t, a, h => by
    simp only [List.length_cons] at h
    intro p hp hr
    by_cases hc : c = 38
    · subst hc
      cases e : endN t with
      | none =>
        rw [prN_amp a t e, List.mem_cons] at hp
        rcases hp with rfl | hp
        · cases hr
        · exact prN_ref_38 f t (a + 1) (by omega) p hp hr
      | some n =>
        rw [prN_ref a t n e, List.mem_cons] at hp
        rcases hp with rfl | hp
        · exact (endN_take t n e).1
        · exact prN_ref_38 f (t.drop (n + 1)) (a + n + 2) (by rw [List.length_drop]; omega) p hp hr
    · have h1 : 1 ≤ (runN (c :: t)).length := by rw [runN_pos t hc]; simp
      rw [prN_run a t hc, List.mem_cons] at hp
      rcases hp with rfl | hp
      · cases hr
      · exact prN_ref_38 f ((c :: t).drop (runN (c :: t)).length) _ (by rw [List.length_drop, List.length_cons]; omega) p hp hr
/-- a text with no ampersand is given as it is. -/
theorem refs_Loose_plain (s : ByteArray) (a0 : Nat) (h38 : 38 ∉ nums s) (hs : s.size ≤ 500000) (ha : a0 ≤ 4194304) (m : Int) (w : World) (hm : w.cell? ⟨0, 0, none⟩ = some (.int .i64 m)) :
    Calls Try.prog 12 #[.string s, .int .i64 a0] w fun e w' => e = .returned (.tuple #[.string s, .slice none 0 0]) ∧ Below w.heap.size w w' := by
  have hp := pr_plain 0 h38
  refine (refs_Loose0 s a0 hs ha m w hm ?_).mono ?_
  · intro p hq hr
    rw [hp] at hq
    split at hq
    · simp at hq
    · rw [List.mem_singleton] at hq
      subst hq
      cases hr
  · rintro e w' ⟨v, rfl, _, hz, hb⟩
    have e1 : (prN 0 (nums s)).flatMap (outL htmN) = nums s := by
      rw [hp]
      split
      · rename_i h; rw [h]; rfl
      · simp [outL]
    have e2 : (prN 0 (nums s)).flatMap (resL htmN a0) = [] := by
      rw [hp]
      split
      · rfl
      · have : nums s ≠ [38] := fun e => h38 (by rw [e]; simp)
        simp [resL, this]
    rw [e1, strOfNums_nums]
    have hv := hz e2
    rw [hv]
    exact ⟨rfl, hb⟩
theorem refs_Loose (s : ByteArray) (a0 : Nat) (hs : s.size ≤ 400000) (ha : a0 ≤ 2097152) (m : Int) (w : World) (hm : w.cell? ⟨0, 0, none⟩ = some (.int .i64 m)) :
    Calls Try.prog 12 #[.string s, .int .i64 a0] w fun e w' => ∃ v, e = .returned (.tuple #[.string (strOfNums (looseR htmN a0 (nums s)).1), v]) ∧
      w'.ownsRow w.heap.size 41 2 v (looseR htmN a0 (nums s)).2.length (reaC (looseR htmN a0 (nums s)).2) ∧ ((looseR htmN a0 (nums s)).2 = [] → v = .slice none 0 0) ∧ Below w.heap.size w w' := by
  have h := loose_pr htmN a0 _ (nums s) 0 (Nat.le_refl _)
  rw [Nat.add_zero] at h
  rw [h]
  refine refs_Loose0 s a0 (by omega) (by omega) m w hm ?_
  intro p hp hr T a u hT ha' hmu
  have hl := (prN_bound _ _ 0 (Nat.le_refl _)).2.2 p hp
  have h38 := prN_ref_38 _ _ 0 (Nat.le_refl _) p hp hr
  rw [nums_length] at hl
  have hTs : T.size = p.2.2.length + 1 := by rw [← nums_length, hT]; simp
  exact refs_Loose_plain T a (by rw [hT, List.mem_append, not_or]; exact ⟨h38, by decide⟩) (by omega) (by omega) m u hmu
end Go.Proofs.Ytkdkoondchbekaa
