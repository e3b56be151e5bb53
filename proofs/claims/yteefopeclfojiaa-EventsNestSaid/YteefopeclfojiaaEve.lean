/-
  Layer 16 in plain terms: how children lie within their element.
-/
import Derived.Test.YteefopeclfojiaaEvc
import Derived.Test.YteefopeclfojiaaEvV
namespace Go.Proofs.Yteefopeclfojiaa
open Go.RowKit
theorem fromK_nil (E : Nat → Option Nat) (k : Nat) : fromK E k [] = k := rfl
theorem fromK_any (E : Nat → Option Nat) (k k' : Nat) {pre : List Nat} (h : pre ≠ []) : fromK E k pre = fromK E k' pre := by
  unfold fromK
  cases hp : pre.getLast? with
  | none => rw [List.getLast?_eq_none_iff] at hp; exact absurd hp h
  | some x => rfl
/-- between children no element begins. -/
theorem kidF_gap {E : Nat → Option Nat} {e : Nat} : ∀ (f k : Nat) (pre : List Nat) (x : Nat), (pre ++ [x]) <+: kidF E e f k → ∀ q, fromK E k pre ≤ q → q < x → E q = none
  | 0, k, pre, x, h => by have := h.length_le; simp [kidF] at this
  | f + 1, k, pre, x, h => by
    rw [kidF] at h
    split at h
    · split at h
      · rename_i j hj
        cases pre with
        | nil =>
          obtain ⟨t, ht⟩ := h
          injection ht with h1 h2
          intro q hq hx
          rw [fromK_nil] at hq
          omega
        | cons y r =>
          obtain ⟨t, ht⟩ := h
          injection ht with h1 h2
          subst h1
          rw [fromK_cons E y y j r hj]
          exact kidF_gap f (j + 1) r x ⟨t, h2⟩
      · rename_i hj
        have ih := kidF_gap f (k + 1) pre x h
        by_cases hp : pre = []
        · subst hp
          intro q hq hx
          rw [fromK_nil] at hq ih
          by_cases e2 : q = k
          · rw [e2]; exact hj
          · exact ih q (by omega) hx
        · rw [fromK_any E k (k + 1) hp]
          exact ih
    · have := h.length_le
      simp at this
/-- what begins ahead of the place behind some children ends ahead of it. -/
theorem kidF_done {E : Nat → Option Nat} {e : Nat} (hlt : ∀ p j, E p = some j → p < j) (hlam : ∀ p j p' j' : Nat, E p = some j → E p' = some j' → p < p' → j < p' ∨ j' < j) : ∀ (f k : Nat) (pre : List Nat), pre <+: kidF E e f k → ∀ q j, k ≤ q → q < fromK E k pre → E q = some j → j < fromK E k pre
  | 0, k, pre, h => by
    have : pre = [] := List.eq_nil_of_length_eq_zero (by have := h.length_le; simpa [kidF] using this)
    subst this
    intro q j h1 h2
    rw [fromK_nil] at h2
    omega
  | f + 1, k, [], _ => by
    intro q j h1 h2
    rw [fromK_nil] at h2
    omega
  | f + 1, k, y :: r, h => by
    rw [kidF] at h
    split at h
    · split at h
      · rename_i j0 hj
        obtain ⟨t, ht⟩ := h
        injection ht with h1 h2
        subst h1
        have ih := kidF_done hlt hlam f (j0 + 1) r ⟨t, h2⟩
        rw [fromK_cons E y y j0 r hj]
        have hge : j0 + 1 ≤ fromK E (j0 + 1) r := by
          by_cases hr : r = []
          · subst hr; exact Nat.le_refl _
          · obtain ⟨ini, z, rfl⟩ : ∃ ini z, r = ini ++ [z] := ⟨r.dropLast, r.getLast hr, (List.dropLast_concat_getLast hr).symm⟩
            obtain ⟨h3, h4, h5, jz, h6⟩ := kidF_pre hlt f (j0 + 1) ini z ⟨t, h2⟩
            rw [fromK_snoc E _ _ _ _ h6]
            have := hlt _ _ h6
            omega
        intro q j h3 h4 h5
        by_cases e1 : q = y
        · subst e1
          rw [hj] at h5
          injection h5 with h5
          omega
        · rcases Nat.lt_or_ge j0 q with h6 | h6
          · exact ih q j (by omega) h4 h5
          · rcases hlam y j0 q j hj h5 (by omega) with h7 | h7 <;> omega
      · rename_i hj
        have ih := kidF_done hlt hlam f (k + 1) (y :: r) h
        rw [fromK_any E k (k + 1) (by simp)]
        intro q j h3 h4 h5
        by_cases e1 : q = k
        · subst e1
          rw [hj] at h5
          cases h5
        · exact ih q j (by omega) h4 h5
    · have := h.length_le
      simp at this
theorem fromK_ge {E : Nat → Option Nat} {e : Nat} (hlt : ∀ p j, E p = some j → p < j) (f k : Nat) (pre : List Nat) (h : pre <+: kidF E e f k) : k ≤ fromK E k pre := by
  by_cases hr : pre = []
  · subst hr; exact Nat.le_refl _
  · obtain ⟨ini, z, rfl⟩ : ∃ ini z, pre = ini ++ [z] := ⟨pre.dropLast, pre.getLast hr, (List.dropLast_concat_getLast hr).symm⟩
    obtain ⟨h3, h4, h5, jz, h6⟩ := kidF_pre hlt f k ini z h
    rw [fromK_snoc E _ _ _ _ h6]
    have := hlt _ _ h6
    omega
theorem segL_add {es : List Evt} {a b c : Nat} (h1 : a ≤ b) (h2 : b ≤ c) : segL es a b ++ segL es b c = segL es a c := by
  unfold segL
  rw [← txsL_append]
  congr 1
  rw [show c - a = (b - a) + (c - b) by omega, List.take_add, List.drop_drop, show a + (b - a) = b by omega]
theorem segL_step {es : List Evt} {a b : Nat} (h : a ≤ b) {x : Evt} (hx : es[b]? = some x) : segL es a (b + 1) = segL es a b ++ nums x.tx := by
  rw [← segL_add h (Nat.le_succ b)]
  congr 1
  unfold segL
  rw [show b + 1 - b = 1 by omega]
  have h1 : es.drop b = x :: es.drop (b + 1) := by
    obtain ⟨e1, e2⟩ := List.getElem?_eq_some_iff.1 hx
    rw [← e2, List.drop_eq_getElem_cons e1]
  rw [h1]
  simp [txsL]
theorem segL_same (es : List Evt) (a : Nat) : segL es a a = [] := by unfold segL; simp [txsL]
/-- a child among its fellows. -/
structure KidAt (es : List Evt) (E : Nat → Option Nat) (p e : Nat) (pre : List Nat) (x jx : Nat) : Prop where
  from_ : p + 1 ≤ fromK E (p + 1) pre
  le : fromK E (p + 1) pre ≤ x
  hE : E x = some jx
  lt : x < jx
  end_ : jx < e
  text : ∀ q, fromK E (p + 1) pre ≤ q → q < x → ∃ y, es[q]? = some y ∧ y.k = 2
  gap : ∀ q, fromK E (p + 1) pre ≤ q → q < x → E q = none
  done : ∀ q j, p < q → q < fromK E (p + 1) pre → E q = some j → j < fromK E (p + 1) pre
theorem kidAt {es : List Evt} {E : Nat → Option Nat} {p e : Nat} (hN : Nest es E) (hp : E p = some e) {k x : Nat} (hk : (kidsL E p e)[k]? = some x) : ∃ jx, KidAt es E p e ((kidsL E p e).take k) x jx := by
  have hlt : ∀ p j, E p = some j → p < j := fun p j h => (hN.lt p j h).1
  have hpre : ((kidsL E p e).take k ++ [x]) <+: kidF E e e (p + 1) := by
    have : (kidsL E p e).take (k + 1) = (kidsL E p e).take k ++ [x] := by rw [List.take_add_one, hk]; rfl
    rw [← this]
    exact List.take_prefix _ _
  have hpre2 : ((kidsL E p e).take k) <+: kidF E e e (p + 1) := List.take_prefix _ _
  obtain ⟨h1, h2, h3, jx, h4⟩ := kidF_pre hlt e (p + 1) _ x hpre
  have hgap := kidF_gap e (p + 1) _ x hpre
  have hdone := kidF_done hlt hN.lam e (p + 1) _ hpre2
  have hf := fromK_ge hlt e (p + 1) _ hpre2
  have hpe := hN.lt p e hp
  refine ⟨jx, hf, h1, h4, hlt _ _ h4, ?_, fun q hq hqx => ?_, hgap, fun q j hq => hdone q j hq⟩
  · rcases hN.lam p e x jx hp h4 (by omega) with h5 | h5 <;> omega
  · obtain ⟨y, hy⟩ : ∃ y, es[q]? = some y := ⟨_, List.getElem?_eq_getElem (by omega)⟩
    refine ⟨y, hy, ?_⟩
    by_cases h0 : y.k = 0
    · obtain ⟨j, hj⟩ := (hN.start q).1 (by rw [hy, ← h0]; rfl)
      rw [hgap q hq hqx] at hj
      cases hj
    · by_cases h2 : y.k = 2
      · exact h2
      · obtain ⟨r, hr⟩ := hN.surj q y hy h0 h2
        exfalso
        have hrq := hlt r q hr
        rcases Nat.lt_trichotomy r p with h5 | h5 | h5
        · rcases hN.lam r q p e hr hp h5 with h6 | h6 <;> omega
        · subst h5
          rw [hp] at hr
          injection hr with hr
          omega
        · rcases Nat.lt_or_ge r (fromK E (p + 1) ((kidsL E p e).take k)) with h6 | h6
          · have := hdone r q (by omega) h6 hr
            omega
          · rw [hgap r h6 (by omega)] at hr
            cases hr
theorem pathK_congr {E : Nat → Option Nat} {p x : Nat} : ∀ n, (∀ q j, q < n → E q = some j → (x ≤ j ↔ p ≤ j)) → pathK E x n = pathK E p n
  | 0, _ => rfl
  | n + 1, h => by
    rw [pathK, pathK, pathK_congr n fun q j hq => h q j (by omega)]
    congr 1
    cases hE : E n with
    | none => rfl
    | some j =>
      have := h n j (by omega) hE
      simp only
      by_cases h1 : x ≤ j
      · rw [if_pos h1, if_pos (this.1 h1)]
      · rw [if_neg h1, if_neg fun h2 => h1 (this.2 h2)]
theorem pathK_skip {E : Nat → Option Nat} {x m : Nat} : ∀ n, (∀ q j, m ≤ q → q < m + n → E q = some j → ¬ x ≤ j) → pathK E x (m + n) = pathK E x m
  | 0, _ => rfl
  | n + 1, h => by
    rw [← Nat.add_assoc, pathK, pathK_skip n fun q j h1 h2 => h q j h1 (by omega)]
    cases hE : E (m + n) with
    | none => rw [List.append_nil]
    | some j =>
      simp only
      rw [if_neg (h (m + n) j (by omega) (by omega) hE), List.append_nil]
/-- a child's path is its element's and one more. -/
theorem pathK_kid {es : List Evt} {E : Nat → Option Nat} {p e x jx : Nat} {pre : List Nat} (hN : Nest es E) (hp : E p = some e) (h : KidAt es E p e pre x jx) : pathK E x (x + 1) = pathK E p (p + 1) ++ [x] := by
  have h0 := h.from_
  have h1 := h.le
  have h2 := h.lt
  have h3 := h.end_
  rw [pathK, h.hE]
  simp only
  rw [if_pos (Nat.le_of_lt h2)]
  congr 1
  rw [show x = (p + 1) + (x - (p + 1)) by omega, pathK_skip, show (p + 1) + (x - (p + 1)) = x by omega]
  · refine pathK_congr (p + 1) fun q j hq hj => ?_
    by_cases e1 : q = p
    · subst e1
      rw [hp] at hj
      injection hj with hj
      omega
    · rcases hN.lam q j p e hj hp (by omega) with h4 | h4 <;> omega
  · intro q j h4 h5 h6
    rcases Nat.lt_or_ge q (fromK E (p + 1) pre) with h7 | h7
    · have := h.done q j (by omega) h7 h6
      omega
    · rw [h.gap q h7 (by omega)] at h6
      cases h6
end Go.Proofs.Yteefopeclfojiaa
