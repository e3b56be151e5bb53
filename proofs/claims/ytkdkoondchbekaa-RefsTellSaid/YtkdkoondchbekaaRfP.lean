/-
  References of XML and HTML in plain terms, and the laws of layer 13. No program in sight.
-/
import Derived.Test.YtkdkoondchbekaaChQ
namespace Go.Proofs.Ytkdkoondchbekaa
/-- a digit's worth; 16: it is none. -/
def worthN (c : Int) : Int := if 48 ≤ c ∧ c ≤ 57 then c - 48 else if 97 ≤ c ∧ c ≤ 102 then c - 87 else if 65 ≤ c ∧ c ≤ 70 then c - 55 else 16
/-- what digits are worth, if all of them are digits to the base. -/
def valN (b : Int) : Int → List Int → Option Int
  | v, [] => some v
  | v, c :: t => if worthN c < b then valN b (v * b + worthN c) t else none
/-- digits to base 10, or behind an x to base 16. -/
def digN : List Int → Int × List Int
  | 120 :: t => (16, t)
  | t => (10, t)
def numN : List Int → Int × Bool × Bool
  | 35 :: t => if (digN t).2 = [] then (0, false, false) else match valN (digN t).1 0 (digN t).2 with
    | none => (0, false, false)
    | some v => if chB v then (v, true, true) else (0, true, false)
  | _ => (0, false, false)
def namN (l : List Int) : Int × Bool :=
  if l = [108, 116] then (60, true) else if l = [103, 116] then (62, true) else if l = [97, 109, 112] then (38, true) else if l = [97, 112, 111, 115] then (39, true) else if l = [113, 117, 111, 116] then (34, true) else (0, false)
def scaN (l : List Int) : Int × Bool := if (numN l).2.2 then ((numN l).1, true) else namN l
/-- where a semicolon stands, with no ampersand and no less-than ahead of it. -/
def endN : List Int → Option Nat
  | [] => none
  | c :: t => if c = 59 then some 0 else if c = 38 ∨ c = 60 then none else (endN t).map (· + 1)
theorem endN_lt : ∀ (l : List Int) (n : Nat), endN l = some n → n < l.length
  | [], n, h => by cases h
  | c :: t, n, h => by
    rw [endN] at h
    split at h
    · cases h; simp
    · split at h
      · cases h
      · cases e : endN t with
        | none => rw [e] at h; cases h
        | some m =>
          rw [e] at h
          cases h
          have := endN_lt t m e
          simp only [List.length_cons]; omega
theorem endN_app : ∀ (l m : List Int) (n : Nat), endN l = some n → endN (l ++ m) = some n
  | [], m, n, h => by cases h
  | c :: t, m, n, h => by
    rw [endN] at h
    rw [List.cons_append, endN]
    split at h
    · rw [if_pos (by assumption)]; exact h
    · rw [if_neg (by assumption)]
      split at h
      · cases h
      · rw [if_neg (by assumption)]
        cases e : endN t with
        | none => rw [e] at h; cases h
        | some k => rw [endN_app t m k e]; rw [e] at h; exact h
theorem endN_take : ∀ (l : List Int) (n : Nat), endN l = some n → 38 ∉ l.take n ∧ 60 ∉ l.take n ∧ 59 ∉ l.take n ∧ l.drop n = 59 :: l.drop (n + 1)
  | [], n, h => by cases h
  | c :: t, n, h => by
    rw [endN] at h
    split at h
    · cases h; refine ⟨by simp, by simp, by simp, ?_⟩; rename_i hc; rw [hc]; rfl
    · split at h
      · cases h
      · cases e : endN t with
        | none => rw [e] at h; cases h
        | some m =>
          rw [e] at h
          cases h
          obtain ⟨h1, h2, h3, h4⟩ := endN_take t m e
          rename_i hc hd
          rw [not_or] at hd
          refine ⟨?_, ?_, ?_, ?_⟩
          · rw [List.take_succ_cons, List.mem_cons, not_or]; exact ⟨fun e => hd.1 e.symm, h1⟩
          · rw [List.take_succ_cons, List.mem_cons, not_or]; exact ⟨fun e => hd.2 e.symm, h2⟩
          · rw [List.take_succ_cons, List.mem_cons, not_or]; exact ⟨fun e => hc e.symm, h3⟩
          · simpa using h4
/-- a text's meaning, strictly: the text, or where the first wrong ampersand stands. By fuel. -/
def strN : Nat → Nat → List Int → Sum Nat (List Int)
  | _, _, [] => .inr []
  | 0, _, _ :: _ => .inr []
  | f + 1, a, c :: t =>
    if c = 38 then match endN t with
      | none => .inl a
      | some n => if (scaN (t.take n)).2 then (match strN f (a + n + 2) (t.drop (n + 1)) with
          | .inl k => .inl k
          | .inr x => .inr (encN (scaN (t.take n)).1 ++ x)) else .inl a
    else match strN f (a + 1) t with
      | .inl k => .inl k
      | .inr x => .inr (c :: x)
theorem strN_fuel : ∀ (f g a : Nat) (l : List Int), l.length ≤ f → l.length ≤ g → strN f a l = strN g a l
  | _, _, _, [], _, _ => by simp [strN]
  | 0, _, _, _ :: _, h, _ => by simp at h
  | _, 0, _, _ :: _, _, h => by simp at h
  | f + 1, g + 1, a, c :: t, hf, hg => by
    simp only [List.length_cons] at hf hg
    rw [strN, strN]
    by_cases hc : c = 38
    · rw [if_pos hc, if_pos hc]
      cases e : endN t with
      | none => rfl
      | some n => 
        have hn := endN_lt t n e
        show (if _ then (match strN f _ _ with | .inl k => _ | .inr x => _) else _) = (if _ then (match strN g _ _ with | .inl k => _ | .inr x => _) else _)
        rw [strN_fuel f g (a + n + 2) (t.drop (n + 1)) (by rw [List.length_drop]; omega) (by rw [List.length_drop]; omega)]
    · rw [if_neg hc, if_neg hc, strN_fuel f g (a + 1) t (by omega) (by omega)]
def strictN (a : Nat) (l : List Int) : Sum Nat (List Int) := strN l.length a l
theorem strictN_nil (a : Nat) : strictN a [] = .inr [] := by simp [strictN, strN]
def onR (y : List Int) (s : Sum Nat (List Int)) : Sum Nat (List Int) := match s with
  | .inl k => .inl k
  | .inr x => .inr (y ++ x)
theorem strictN_char {c : Int} (a : Nat) (t : List Int) (hc : c ≠ 38) : strictN a (c :: t) = onR [c] (strictN (a + 1) t) := by
  unfold strictN
  rw [List.length_cons, strN, if_neg hc]
  rfl
theorem strictN_ref (a : Nat) (t : List Int) : strictN a (38 :: t) = match endN t with
    | none => .inl a
    | some n => if (scaN (t.take n)).2 then onR (encN (scaN (t.take n)).1) (strictN (a + n + 2) (t.drop (n + 1))) else .inl a := by
  unfold strictN
  rw [List.length_cons, strN, if_pos rfl]
  cases e : endN t with
  | none => rfl
  | some n =>
    show (if _ then (match strN t.length _ _ with | .inl k => _ | .inr x => _) else _) = _
    rw [strN_fuel t.length (t.drop (n + 1)).length _ _ (by rw [List.length_drop]; omega) (Nat.le_refl _)]
    rfl
/-- what a reference stands for, and the reason's kind, loosely. -/
def HtmlT : Type := List Int → Int × Bool
def looN (H : List Int → Int × Bool) (l : List Int) : Int × Int × Bool :=
  if (numN l).2.2 then ((numN l).1, -1, true) else if (numN l).2.1 then (65533, 4, true) else if (namN l).2 then ((namN l).1, -1, true) else ((H l).1, 7, (H l).2)
/-- a text's meaning, loosely: the text, the reasons. By fuel. -/
def lseN (H : List Int → Int × Bool) : Nat → Nat → List Int → List Int × List (Int × Nat)
  | _, _, [] => ([], [])
  | 0, _, _ :: _ => ([], [])
  | f + 1, a, c :: t =>
    if c = 38 then match endN t with
      | none => (38 :: (lseN H f (a + 1) t).1, (6, a) :: (lseN H f (a + 1) t).2)
      | some n => if (looN H (t.take n)).2.2 then
          (encN (looN H (t.take n)).1 ++ (lseN H f (a + n + 2) (t.drop (n + 1))).1, (if 0 ≤ (looN H (t.take n)).2.1 then [((looN H (t.take n)).2.1, a)] else []) ++ (lseN H f (a + n + 2) (t.drop (n + 1))).2)
        else (38 :: (lseN H f (a + 1) t).1, (6, a) :: (lseN H f (a + 1) t).2)
    else (c :: (lseN H f (a + 1) t).1, (lseN H f (a + 1) t).2)
theorem lseN_fuel (H : List Int → Int × Bool) : ∀ (f g a : Nat) (l : List Int), l.length ≤ f → l.length ≤ g → lseN H f a l = lseN H g a l
  | _, _, _, [], _, _ => by simp [lseN]
  | 0, _, _, _ :: _, h, _ => by simp at h
  | _, 0, _, _ :: _, _, h => by simp at h
  | f + 1, g + 1, a, c :: t, hf, hg => by
    simp only [List.length_cons] at hf hg
    have e1 := lseN_fuel H f g (a + 1) t (by omega) (by omega)
    have e2 := fun n => lseN_fuel H f g (a + n + 2) (t.drop (n + 1)) (by rw [List.length_drop]; omega) (by rw [List.length_drop]; omega)
    rw [lseN, lseN, e1]
    simp only [e2]
def looseR (H : List Int → Int × Bool) (a : Nat) (l : List Int) : List Int × List (Int × Nat) := lseN H l.length a l
def andR (y : List Int) (z : List (Int × Nat)) (s : List Int × List (Int × Nat)) : List Int × List (Int × Nat) := (y ++ s.1, z ++ s.2)
theorem looseR_nil (H : List Int → Int × Bool) (a : Nat) : looseR H a [] = ([], []) := by simp [looseR, lseN]
theorem looseR_char (H : List Int → Int × Bool) {c : Int} (a : Nat) (t : List Int) (hc : c ≠ 38) : looseR H a (c :: t) = andR [c] [] (looseR H (a + 1) t) := by
  unfold looseR
  rw [List.length_cons, lseN, if_neg hc]
  rfl
theorem looseR_ref (H : List Int → Int × Bool) (a : Nat) (t : List Int) : looseR H a (38 :: t) = match endN t with
    | none => andR [38] [(6, a)] (looseR H (a + 1) t)
    | some n => if (looN H (t.take n)).2.2 then andR (encN (looN H (t.take n)).1) (if 0 ≤ (looN H (t.take n)).2.1 then [((looN H (t.take n)).2.1, a)] else []) (looseR H (a + n + 2) (t.drop (n + 1)))
      else andR [38] [(6, a)] (looseR H (a + 1) t) := by
  unfold looseR
  rw [List.length_cons, lseN, if_pos rfl]
  cases e : endN t with
  | none => rfl
  | some n =>
    show (if _ then (_ ++ (lseN H t.length _ _).1, _ ++ (lseN H t.length _ _).2) else _) = _
    rw [lseN_fuel H t.length (t.drop (n + 1)).length (a + n + 2) (t.drop (n + 1)) (by rw [List.length_drop]; omega) (Nat.le_refl _)]
    rfl
/-- text between references goes through. -/
theorem looseR_plain (H : List Int → Int × Bool) : ∀ (p : List Int) (a : Nat) (t : List Int), 38 ∉ p → looseR H a (p ++ t) = andR p [] (looseR H (a + p.length) t)
  | [], a, t, _ => by simp [andR]
  | c :: p, a, t, h => by
    rw [List.mem_cons, not_or] at h
    rw [List.cons_append, looseR_char H a _ (fun e => h.1 e.symm), looseR_plain H p (a + 1) t h.2]
    simp [andR, Nat.add_assoc, Nat.add_comm 1]
theorem strictN_plain : ∀ (p : List Int) (a : Nat) (t : List Int), 38 ∉ p → strictN a (p ++ t) = onR p (strictN (a + p.length) t)
  | [], a, t, _ => by
    simp only [List.nil_append, List.length_nil, Nat.add_zero]
    cases strictN a t <;> rfl
  | c :: p, a, t, h => by
    rw [List.mem_cons, not_or] at h
    rw [List.cons_append, strictN_char a _ (fun e => h.1 e.symm), strictN_plain p (a + 1) t h.2]
    rw [show a + 1 + p.length = a + (c :: p).length by simp; omega]
    cases strictN (a + (c :: p).length) t <;> rfl
theorem onR_onR (x y : List Int) (s : Sum Nat (List Int)) : onR x (onR y s) = onR (x ++ y) s := by cases s <;> simp [onR]
/-- escaping. -/
def escC (q : Bool) (c : Int) : List Int :=
  if c = 38 then [38, 97, 109, 112, 59] else if c = 60 then [38, 108, 116, 59] else if c = 62 then [38, 103, 116, 59] else if c = 13 then [38, 35, 49, 51, 59]
  else if q = true ∧ c = 34 then [38, 113, 117, 111, 116, 59] else if q = true ∧ c = 9 then [38, 35, 57, 59] else if q = true ∧ c = 10 then [38, 35, 49, 48, 59] else [c]
def escN (q : Bool) (l : List Int) : List Int := l.flatMap (escC q)
theorem escC_str (q : Bool) (c : Int) (hc : 0 ≤ c) (a : Nat) (t : List Int) : ∃ b, strictN a (escC q c ++ t) = onR [c] (strictN b t) := by
  have key : ∀ (n : List Int) (r : Int), endN (n ++ 59 :: t) = some n.length → scaN n = (r, true) → encN r = [r] → ∃ b, strictN a (38 :: (n ++ 59 :: t)) = onR [r] (strictN b t) := by
    intro n r h1 h2 h3
    refine ⟨a + n.length + 2, ?_⟩
    rw [strictN_ref, h1]
    simp [h2, h3]
  unfold escC
  split
  · rename_i h; subst h
    exact key [97, 109, 112] 38 (by simp [endN]) (by decide) (by decide)
  · split
    · rename_i h; subst h
      exact key [108, 116] 60 (by simp [endN]) (by decide) (by decide)
    · split
      · rename_i h; subst h
        exact key [103, 116] 62 (by simp [endN]) (by decide) (by decide)
      · split
        · rename_i h; subst h
          exact key [35, 49, 51] 13 (by simp [endN]) (by decide) (by decide)
        · split
          · rename_i h; obtain ⟨_, rfl⟩ := h
            exact key [113, 117, 111, 116] 34 (by simp [endN]) (by decide) (by decide)
          · split
            · rename_i h; obtain ⟨_, rfl⟩ := h
              exact key [35, 57] 9 (by simp [endN]) (by decide) (by decide)
            · split
              · rename_i h; obtain ⟨_, rfl⟩ := h
                exact key [35, 49, 48] 10 (by simp [endN]) (by decide) (by decide)
              · exact ⟨a + 1, strictN_char a t (by assumption)⟩
theorem esc_back (q : Bool) : ∀ (l : List Int) (a : Nat), isBs l → strictN a (escN q l) = .inr l
  | [], a, _ => strictN_nil a
  | c :: t, a, h => by
    have hc := h c (List.mem_cons_self ..)
    show strictN a (escC q c ++ escN q t) = _
    obtain ⟨b, e⟩ := escC_str q c hc.1 a (escN q t)
    rw [e, esc_back q t b fun x hx => h x (List.mem_cons_of_mem _ hx)]
    rfl
theorem esc_mem (q : Bool) (l : List Int) : ∀ x ∈ escN q l, x ≠ 60 ∧ x ≠ 62 ∧ x ≠ 13 ∧ (q = true → x ≠ 34 ∧ x ≠ 9 ∧ x ≠ 10) := by
  intro x hx
  obtain ⟨c, _, h⟩ := List.mem_flatMap.1 hx
  cases q with
  | false =>
    unfold escC at h
    (repeat' split at h) <;> simp at h <;> (refine ⟨?_, ?_, ?_, fun hq => by cases hq⟩ <;> first | omega | (simp at *; omega))
  | true =>
    unfold escC at h
    (repeat' split at h) <;> simp at h <;> (refine ⟨?_, ?_, ?_, fun _ => ⟨?_, ?_, ?_⟩⟩ <;> first | omega | (simp at *; omega))
theorem esc_len (q : Bool) (l : List Int) : l.length ≤ (escN q l).length := by
  induction l with
  | nil => simp
  | cons c t ih =>
    have : 1 ≤ (escC q c).length := by unfold escC; (repeat' split) <;> simp
    show _ ≤ (escC q c ++ escN q t).length
    rw [List.length_append, List.length_cons]; omega
theorem escC_len (q : Bool) (c : Int) : (escC q c).length ≤ 6 := by unfold escC; (repeat' split) <;> simp
theorem esc_len6 (q : Bool) (l : List Int) : (escN q l).length ≤ 6 * l.length := by
  induction l with
  | nil => simp [escN]
  | cons c t ih =>
    have := escC_len q c
    show (escC q c ++ escN q t).length ≤ _
    rw [List.length_append, List.length_cons]; omega
theorem esc_app (q : Bool) (a b : List Int) : escN q (a ++ b) = escN q a ++ escN q b := by simp [escN]
theorem esc_isBs (q : Bool) {l : List Int} (h : isBs l) : isBs (escN q l) := by
  intro x hx
  obtain ⟨c, hc, hm⟩ := List.mem_flatMap.1 hx
  have := h c hc
  unfold escC at hm
  (repeat' split at hm) <;> simp at hm <;> omega
/-- strictly and loosely. -/
theorem both_ok (H : List Int → Int × Bool) : ∀ (f : Nat) (l : List Int) (a b : Nat) (x : List Int), l.length ≤ f → strictN a l = .inr x → looseR H b l = (x, [])
  | _, [], a, b, x, _, h => by rw [strictN_nil] at h; cases h; exact looseR_nil H b
  | 0, _ :: _, _, _, _, h, _ => by simp at h
  | f + 1, c :: t, a, b, x, hl, h => by
    simp only [List.length_cons] at hl
    by_cases hc : c = 38
    · subst hc
      rw [strictN_ref] at h
      rw [looseR_ref]
      cases e : endN t with
      | none => rw [e] at h; cases h
      | some n =>
        rw [e] at h
        have hn := endN_lt t n e
        dsimp only at h ⊢
        split at h
        · rename_i hs
          cases hr : strictN (a + n + 2) (t.drop (n + 1)) with
          | inl k => rw [hr] at h; cases h
          | inr y =>
            rw [hr] at h
            have hx : encN (scaN (t.take n)).1 ++ y = x := by injection h
            have ih := both_ok H f (t.drop (n + 1)) (a + n + 2) (b + n + 2) y (by rw [List.length_drop]; omega) hr
            have hL : (looN H (t.take n)) = ((scaN (t.take n)).1, -1, true) := by
              unfold looN scaN at *
              by_cases h1 : (numN (t.take n)).2.2 = true
              · rw [if_pos h1, if_pos h1]
              · rw [if_neg h1] at hs ⊢
                rw [if_neg h1]
                have h3 : (numN (t.take n)).2.1 = false := by
                  cases h4 : (numN (t.take n)).2.1 with
                  | false => rfl
                  | true =>
                    exfalso
                    unfold namN at hs
                    (repeat' split at hs) <;> first | (rename_i e1; rw [e1] at h4; revert h4; decide) | (revert hs; decide)
                rw [h3, if_neg (by decide), if_pos hs]
            rw [hL, ih, if_pos rfl]
            show (encN _ ++ y, _) = _
            rw [← hx]; rfl
        · cases h
    · rw [strictN_char a t hc] at h
      rw [looseR_char H b t hc]
      cases hr : strictN (a + 1) t with
      | inl k => rw [hr] at h; cases h
      | inr y =>
        rw [hr] at h
        have hx : [c] ++ y = x := by injection h
        rw [both_ok H f t (a + 1) (b + 1) y (by omega) hr, ← hx]
        rfl
theorem both_bad (H : List Int → Int × Bool) : ∀ (f : Nat) (l : List Int) (a k : Nat), l.length ≤ f → strictN a l = .inl k → a ≤ k ∧ l[k - a]? = some 38 ∧ ∃ r, (looseR H a l).2.head? = some (r, k)
  | _, [], a, k, _, h => by rw [strictN_nil] at h; cases h
  | 0, _ :: _, _, _, h, _ => by simp at h
  | f + 1, c :: t, a, k, hl, h => by
    simp only [List.length_cons] at hl
    by_cases hc : c = 38
    · subst hc
      rw [strictN_ref] at h
      rw [looseR_ref]
      cases e : endN t with
      | none => rw [e] at h; cases h; exact ⟨Nat.le_refl _, by simp, _, rfl⟩
      | some n =>
        rw [e] at h
        have hn := endN_lt t n e
        dsimp only at h ⊢
        split at h
        · rename_i hs
          cases hr : strictN (a + n + 2) (t.drop (n + 1)) with
          | inr y => rw [hr] at h; cases h
          | inl k' =>
            rw [hr] at h
            have hk : k' = k := by injection h
            subst hk
            obtain ⟨h1, h2, r, h3⟩ := both_bad H f (t.drop (n + 1)) (a + n + 2) k' (by rw [List.length_drop]; omega) hr
            have hL : (looN H (t.take n)) = ((scaN (t.take n)).1, -1, true) := by
              unfold looN scaN at *
              by_cases h1 : (numN (t.take n)).2.2 = true
              · rw [if_pos h1, if_pos h1]
              · rw [if_neg h1] at hs ⊢
                rw [if_neg h1]
                have h3 : (numN (t.take n)).2.1 = false := by
                  cases h4 : (numN (t.take n)).2.1 with
                  | false => rfl
                  | true =>
                    exfalso
                    unfold namN at hs
                    (repeat' split at hs) <;> first | (rename_i e1; rw [e1] at h4; revert h4; decide) | (revert hs; decide)
                rw [h3, if_neg (by decide), if_pos hs]
            refine ⟨by omega, ?_, r, ?_⟩
            · rw [show k' - a = (k' - (a + n + 2)) + (n + 1) + 1 by omega, List.getElem?_cons_succ, ← h2, List.getElem?_drop]
              congr 1; omega
            · rw [hL, if_pos rfl]
              exact h3
        · rename_i hs
          cases h
          refine ⟨Nat.le_refl _, by simp, ?_⟩
          split
          · rename_i h4
            have : 0 ≤ (looN H (t.take n)).2.1 := by
              unfold looN scaN at *
              split
              · rename_i h5; rw [if_pos h5] at hs; exact absurd rfl hs
              · rename_i h5; rw [if_neg h5] at hs
                split
                · decide
                · exact (by decide : (0 : Int) ≤ 7)
            rw [if_pos this]
            exact ⟨_, rfl⟩
          · exact ⟨_, rfl⟩
    · rw [strictN_char a t hc] at h
      rw [looseR_char H a t hc]
      cases hr : strictN (a + 1) t with
      | inr y => rw [hr] at h; cases h
      | inl k' =>
        rw [hr] at h
        have hk : k' = k := by injection h
        subst hk
        obtain ⟨h1, h2, r, h3⟩ := both_bad H f t (a + 1) k' (by omega) hr
        refine ⟨by omega, ?_, r, h3⟩
        rw [show k' - a = (k' - (a + 1)) + 1 by omega, List.getElem?_cons_succ]
        exact h2
/-- texts put together. -/
theorem strict_app : ∀ (f : Nat) (l m : List Int) (a : Nat) (x : List Int), l.length ≤ f → strictN a l = .inr x → strictN a (l ++ m) = onR x (strictN (a + l.length) m)
  | _, [], m, a, x, _, h => by
    rw [strictN_nil] at h; cases h
    simp only [List.nil_append, List.length_nil, Nat.add_zero]
    cases strictN a m <;> rfl
  | 0, _ :: _, _, _, _, h, _ => by simp at h
  | f + 1, c :: t, m, a, x, hl, h => by
    simp only [List.length_cons] at hl
    by_cases hc : c = 38
    · subst hc
      rw [strictN_ref] at h
      rw [List.cons_append, strictN_ref]
      cases e : endN t with
      | none => rw [e] at h; cases h
      | some n =>
        rw [e] at h
        have hn := endN_lt t n e
        rw [endN_app t m n e]
        dsimp only at h ⊢
        rw [List.take_append_of_le_length (by omega), List.drop_append_of_le_length (by omega)]
        split at h
        · rename_i hs
          rw [if_pos hs]
          cases hr : strictN (a + n + 2) (t.drop (n + 1)) with
          | inl k => rw [hr] at h; cases h
          | inr y =>
            rw [hr] at h
            have hx : encN (scaN (t.take n)).1 ++ y = x := by injection h
            rw [strict_app f (t.drop (n + 1)) m (a + n + 2) y (by rw [List.length_drop]; omega) hr, onR_onR, hx]
            congr 2
            rw [List.length_drop, List.length_cons]; omega
        · cases h
    · rw [strictN_char a t hc] at h
      rw [List.cons_append, strictN_char a _ hc]
      cases hr : strictN (a + 1) t with
      | inl k => rw [hr] at h; cases h
      | inr y =>
        rw [hr] at h
        have hx : [c] ++ y = x := by injection h
        rw [strict_app f t m (a + 1) y (by omega) hr, onR_onR, hx]
        congr 2
        rw [List.length_cons]; omega
theorem strict_shift : ∀ (f : Nat) (l : List Int) (a b : Nat), l.length ≤ f → strictN (a + b) l = match strictN a l with
    | .inl k => .inl (k + b)
    | .inr x => .inr x
  | _, [], a, b, _ => by rw [strictN_nil, strictN_nil]
  | 0, _ :: _, _, _, h => by simp at h
  | f + 1, c :: t, a, b, hl => by
    simp only [List.length_cons] at hl
    by_cases hc : c = 38
    · subst hc
      rw [strictN_ref, strictN_ref]
      cases e : endN t with
      | none => rfl
      | some n =>
        have hn := endN_lt t n e
        dsimp only
        split
        · rw [show a + b + n + 2 = (a + n + 2) + b by omega, strict_shift f (t.drop (n + 1)) (a + n + 2) b (by rw [List.length_drop]; omega)]
          cases strictN (a + n + 2) (t.drop (n + 1)) <;> rfl
        · rfl
    · rw [strictN_char _ t hc, strictN_char _ t hc, show a + b + 1 = (a + 1) + b by omega, strict_shift f t (a + 1) b (by omega)]
      cases strictN (a + 1) t <;> rfl
end Go.Proofs.Ytkdkoondchbekaa
