/-
  Scalars of XML and names in plain terms. No program in sight.
-/
import Derived.Test.YtkdkoondchbekaaU8N
namespace Go.Proofs.Ytkdkoondchbekaa
/-- is a number in one of some ranges? -/
def anyR (r : Int) (l : List (Int × Int)) : Bool := l.any fun x => decide (x.1 ≤ r ∧ r ≤ x.2)
def charL : List (Int × Int) := [(9, 10), (13, 13), (32, 55295), (57344, 65533), (65536, 1114111)]
def firstL : List (Int × Int) := [(97, 122), (65, 90), (95, 95), (192, 214), (216, 246), (248, 767), (880, 893), (895, 8191), (8204, 8205), (8304, 8591), (11264, 12271), (12289, 55295), (63744, 64975), (65008, 65533), (65536, 983039)]
def moreL : List (Int × Int) := [(45, 46), (48, 57), (183, 183), (768, 879), (8255, 8256)]
def chB (r : Int) : Bool := anyR r charL
def fiB (r : Int) : Bool := anyR r firstL
def fuB (r : Int) : Bool := fiB r || anyR r moreL
def spB (r : Int) : Bool := decide (r = 32 ∨ r = 9 ∨ r = 10 ∨ r = 13)
def tkB (r : Int) : Bool := decide (r = 58) || fuB r
theorem anyR_iff (r : Int) (l : List (Int × Int)) : anyR r l = true ↔ ∃ x ∈ l, x.1 ≤ r ∧ r ≤ x.2 := by unfold anyR; simp
theorem chB_iff (r : Int) : chB r = true ↔ (r = 9 ∨ r = 10 ∨ r = 13 ∨ (32 ≤ r ∧ r ≤ 55295) ∨ (57344 ≤ r ∧ r ≤ 65533) ∨ (65536 ≤ r ∧ r ≤ 1114111)) := by
  unfold chB; rw [anyR_iff]; unfold charL; simp; omega
theorem fiB_iff (r : Int) : fiB r = true ↔ ((65 ≤ r ∧ r ≤ 90) ∨ (97 ≤ r ∧ r ≤ 122) ∨ r = 95 ∨ (192 ≤ r ∧ r ≤ 214) ∨ (216 ≤ r ∧ r ≤ 246) ∨ (248 ≤ r ∧ r ≤ 767) ∨ (880 ≤ r ∧ r ≤ 893) ∨ (895 ≤ r ∧ r ≤ 8191) ∨ r = 8204 ∨ r = 8205 ∨ (8304 ≤ r ∧ r ≤ 8591) ∨ (11264 ≤ r ∧ r ≤ 12271) ∨ (12289 ≤ r ∧ r ≤ 55295) ∨ (63744 ≤ r ∧ r ≤ 64975) ∨ (65008 ≤ r ∧ r ≤ 65533) ∨ (65536 ≤ r ∧ r ≤ 983039)) := by
  unfold fiB; rw [anyR_iff]; unfold firstL; simp; omega
theorem moB_iff (r : Int) : anyR r moreL = true ↔ (r = 45 ∨ r = 46 ∨ (48 ≤ r ∧ r ≤ 57) ∨ r = 183 ∨ (768 ≤ r ∧ r ≤ 879) ∨ r = 8255 ∨ r = 8256) := by
  rw [anyR_iff]; unfold moreL; simp; omega
theorem fuB_iff (r : Int) : fuB r = true ↔ fiB r = true ∨ (r = 45 ∨ r = 46 ∨ (48 ≤ r ∧ r ≤ 57) ∨ r = 183 ∨ (768 ≤ r ∧ r ≤ 879) ∨ r = 8255 ∨ r = 8256) := by
  unfold fuB; rw [Bool.or_eq_true, moB_iff]
theorem fi_fu {r : Int} (h : fiB r = true) : fuB r = true := (fuB_iff r).2 (.inl h)
theorem fu_ch {r : Int} (h : fuB r = true) : chB r = true := by
  rw [fuB_iff, fiB_iff] at h; rw [chB_iff]; omega
theorem sp_ch {r : Int} (h : spB r = true) : chB r = true := by
  unfold spB at h; rw [decide_eq_true_iff] at h; rw [chB_iff]; omega
theorem sp_fu {r : Int} (h : spB r = true) : fuB r = false := by
  unfold spB at h; rw [decide_eq_true_iff] at h
  cases hf : fuB r with
  | false => rfl
  | true => rw [fuB_iff, fiB_iff] at hf; omega
theorem fu_58 : fuB 58 = false := by decide
theorem ch_sc {r : Int} (h : chB r = true) : isSc r = true := by rw [chB_iff] at h; rw [isSc_iff]; omega
theorem tk_ch {r : Int} (h : tkB r = true) : chB r = true := by
  unfold tkB at h
  rw [Bool.or_eq_true, decide_eq_true_iff] at h
  rcases h with rfl | h
  · decide
  · exact fu_ch h
theorem neg_ch {r : Int} (h : r < 0) : chB r = false := by
  cases hf : chB r with
  | false => rfl
  | true => rw [chB_iff] at hf; omega
theorem neg_fu {r : Int} (h : r < 0) : fuB r = false := by
  cases hf : fuB r with
  | false => rfl
  | true => exact absurd (fu_ch hf) (by rw [neg_ch h]; decide)
/-- how far the pieces are as asked: Q is told where one stands. -/
def stopP (Q : Nat → Int → Bool) : Nat → List (Int × Nat) → Nat
  | a, [] => a
  | a, p :: r => if Q a p.1 then stopP Q (a + p.2) r else a
/-- the scalar at place a is as asked, the first one being a First one too. -/
def frQ (f : Int → Bool) (a : Nat) (r : Int) : Bool := (decide (a ≠ 0) || fiB r) && f r
def frontN (f : Int → Bool) (l : List Int) : Nat := stopP (frQ f) 0 (pieces l)
def plainN (l : List Int) : Bool := decide (l ≠ []) && decide (frontN fuB l = l.length)
def badK (l : List Int) : Nat := stopP (fun _ r => chB r) 0 (pieces l)
def badN (l : List Int) : Int := if badK l = l.length then -1 else badK l
def takeN (l : List Int) : Nat := frontN tkB l
theorem stopP_lo (Q : Nat → Int → Bool) : ∀ (a : Nat) (l : List (Int × Nat)), a ≤ stopP Q a l
  | a, [] => Nat.le_refl _
  | a, p :: r => by
    rw [stopP]
    split
    · have := stopP_lo Q (a + p.2) r; omega
    · exact Nat.le_refl _
theorem stopP_hi (Q : Nat → Int → Bool) : ∀ (a : Nat) (l : List (Int × Nat)), stopP Q a l ≤ a + (l.map (·.2)).sum
  | a, [] => by simp [stopP]
  | a, p :: r => by
    rw [stopP]
    split
    · have := stopP_hi Q (a + p.2) r; simp; omega
    · simp
theorem pieces_sum (l : List Int) : ((pieces l).map (·.2)).sum = l.length := pcs_sum l.length l (Nat.le_refl _)
theorem front_hi (f : Int → Bool) (l : List Int) : frontN f l ≤ l.length := by
  have := stopP_hi (frQ f) 0 (pieces l)
  rw [pieces_sum] at this
  unfold frontN; omega
theorem badK_hi (l : List Int) : badK l ≤ l.length := by
  have := stopP_hi (fun _ r => chB r) 0 (pieces l)
  rw [pieces_sum] at this
  unfold badK; omega
theorem pieces_pos (l : List Int) : ∀ p ∈ pieces l, 1 ≤ p.2 := by
  have key : ∀ (f : Nat) (l : List Int), ∀ p ∈ pcs f l, 1 ≤ p.2 := by
    intro f
    induction f with
    | zero => intro l p hp; simp [pcs] at hp
    | succ f ih =>
      intro l p hp
      cases l with
      | nil => simp [pcs] at hp
      | cons c t =>
        rw [pcs, List.mem_cons] at hp
        rcases hp with rfl | hp
        · exact (piece_n c t).1
        · exact ih _ p hp
  exact key _ _
/-- all pieces are as asked. -/
def allP (Q : Nat → Int → Bool) : Nat → List (Int × Nat) → Bool
  | _, [] => true
  | a, p :: r => Q a p.1 && allP Q (a + p.2) r
theorem stop_all (Q : Nat → Int → Bool) : ∀ (a : Nat) (l : List (Int × Nat)), (∀ p ∈ l, 1 ≤ p.2) → (decide (stopP Q a l = a + (l.map (·.2)).sum) = allP Q a l)
  | a, [], _ => by simp [stopP, allP]
  | a, p :: r, h => by
    have ih := stop_all Q (a + p.2) r fun q hq => h q (List.mem_cons_of_mem _ hq)
    have h1 := h p (List.mem_cons_self ..)
    rw [stopP, allP]
    cases hq : Q a p.1 with
    | true => rw [if_pos rfl, Bool.true_and, ← ih]; simp [Nat.add_assoc]
    | false => rw [if_neg (by decide), Bool.false_and]; simp; omega
theorem front_all (f : Int → Bool) (l : List Int) : decide (frontN f l = l.length) = allP (frQ f) 0 (pieces l) := by
  have := stop_all (frQ f) 0 (pieces l) (pieces_pos l)
  rw [pieces_sum, Nat.zero_add] at this
  exact this
theorem bad_all (l : List Int) : decide (badK l = l.length) = allP (fun _ r => chB r) 0 (pieces l) := by
  have := stop_all (fun _ r => chB r) 0 (pieces l) (pieces_pos l)
  rw [pieces_sum, Nat.zero_add] at this
  exact this
theorem allP_const (f : Int → Bool) : ∀ (a : Nat) (l : List (Int × Nat)), allP (fun _ r => f r) a l = l.all fun p => f p.1
  | _, [] => rfl
  | a, p :: r => by rw [allP, allP_const f (a + p.2) r]; rfl
theorem allP_fr (f : Int → Bool) : ∀ (a : Nat) (l : List (Int × Nat)), a ≠ 0 → (∀ p ∈ l, 1 ≤ p.2) → allP (frQ f) a l = l.all fun p => f p.1
  | _, [], _, _ => rfl
  | a, p :: r, ha, h => by
    rw [allP, allP_fr f (a + p.2) r (by omega) fun q hq => h q (List.mem_cons_of_mem _ hq)]
    simp [frQ, ha]
theorem allP_app (Q : Nat → Int → Bool) : ∀ (a : Nat) (l m : List (Int × Nat)), allP Q a (l ++ m) = (allP Q a l && allP Q (a + (l.map (·.2)).sum) m)
  | a, [], m => by simp [allP]
  | a, p :: r, m => by
    rw [List.cons_append, allP, allP, allP_app Q (a + p.2) r m]
    simp [Nat.add_assoc, Bool.and_assoc]
theorem stopP_app (Q : Nat → Int → Bool) : ∀ (a : Nat) (l m : List (Int × Nat)), allP Q a l = true → stopP Q a (l ++ m) = stopP Q (a + (l.map (·.2)).sum) m
  | a, [], m, _ => by simp
  | a, p :: r, m, h => by
    rw [allP, Bool.and_eq_true] at h
    rw [List.cons_append, stopP, if_pos h.1, stopP_app Q (a + p.2) r m h.2]
    simp [Nat.add_assoc]
/-- the pieces ahead of where one stops, and those from there on. -/
theorem stop_split (Q : Nat → Int → Bool) : ∀ (f : Nat) (a : Nat) (l : List Int), l.length ≤ f → ∃ p m, pieces l = p ++ m ∧ allP Q a p = true ∧ a + (p.map (·.2)).sum = stopP Q a (pieces l) ∧ m = pieces (l.drop (p.map (·.2)).sum) ∧ (∀ q r, m = q :: r → Q (stopP Q a (pieces l)) q.1 = false)
  | f, a, [], _ => ⟨[], [], rfl, rfl, by simp [pieces_nil, stopP], rfl, fun q r h => by cases h⟩
  | 0, a, c :: t, h => by simp at h
  | f + 1, a, c :: t, h => by
    have hp := piece_n c t
    cases hq : Q a (piece (c :: t)).1 with
    | false =>
      refine ⟨[], pieces (c :: t), rfl, rfl, ?_, rfl, ?_⟩
      · rw [pieces_cons, stopP, if_neg (by rw [hq]; decide)]; simp
      · intro q r h
        rw [pieces_cons] at h ⊢
        injection h with h1 h2
        rw [stopP, if_neg (by rw [hq]; decide), ← h1, hq]
    | true =>
      obtain ⟨p, m, h1, h2, h3, h4, h5⟩ := stop_split Q f (a + (piece (c :: t)).2) ((c :: t).drop (piece (c :: t)).2) (by rw [List.length_drop]; simp only [List.length_cons] at *; omega)
      have hst : stopP Q a (pieces (c :: t)) = stopP Q (a + (piece (c :: t)).2) (pieces ((c :: t).drop (piece (c :: t)).2)) := by
        rw [pieces_cons, stopP, if_pos hq]
      refine ⟨piece (c :: t) :: p, m, by rw [pieces_cons, h1]; rfl, by rw [allP, hq, h2]; rfl, ?_, ?_, ?_⟩
      · rw [hst, ← h3]; simp [Nat.add_assoc]
      · rw [h4, List.drop_drop]; simp
      · rw [hst]; exact h5
end Go.Proofs.Ytkdkoondchbekaa
