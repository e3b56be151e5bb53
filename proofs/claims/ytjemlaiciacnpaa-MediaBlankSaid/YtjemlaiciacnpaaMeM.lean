/-
  Blanks ahead of a Content-Type, blanks and semicolons behind it, make no difference to the plain reader. No program in sight.
-/
import Derived.Test.YtjemlaiciacnpaaMeS
namespace Go.Proofs.Ytjemlaiciacnpaa
/-- blanks and semicolons. -/
def Tr (x : List Int) : Prop := ∀ c ∈ x, isBl c = true ∨ c = 59
theorem bl_is {c : Int} (h : isBl c = true) : c = 32 ∨ c = 9 := of_decide_eq_true h
theorem tr_is {c : Int} (h : isBl c = true ∨ c = 59) : c = 32 ∨ c = 9 ∨ c = 59 := by
  rcases h with h | h
  · rcases bl_is h with h | h
    · exact .inl h
    · exact .inr (.inl h)
  · exact .inr (.inr h)
theorem tr_notTok {c : Int} (h : isBl c = true ∨ c = 59) : isTok c = false := by
  rcases tr_is h with rfl | rfl | rfl <;> decide
theorem Tr.tail {c : Int} {x : List Int} (h : Tr (c :: x)) : Tr x := fun d hd => h d (List.mem_cons_of_mem _ hd)
theorem Tr.head {c : Int} {x : List Int} (h : Tr (c :: x)) : isBl c = true ∨ c = 59 := h c (List.mem_cons_self ..)
theorem Tr.take {x : List Int} (h : Tr x) : x.takeWhile isTok = [] := by
  cases x with
  | nil => rfl
  | cons c x => rw [List.takeWhile_cons, tr_notTok h.head]; rfl
theorem Tr.drop {x : List Int} (h : Tr x) : x.dropWhile isTok = x := by
  cases x with
  | nil => rfl
  | cons c x => rw [List.dropWhile_cons, tr_notTok h.head]; rfl
theorem Tr.bl {x : List Int} (h : Tr x) : Tr (x.dropWhile isBl) := fun c hc => h c ((List.dropWhile_suffix isBl).subset hc)
theorem bl_head {l r : List Int} {c : Int} (h : l.dropWhile isBl = c :: r) : isBl c = false := by
  induction l with
  | nil => cases h
  | cons a l ih =>
    rw [List.dropWhile_cons] at h
    cases ha : isBl a with
    | true => rw [ha] at h; exact ih h
    | false =>
      rw [ha] at h
      injection h with h1 h2
      rw [← h1]
      exact ha
theorem take_app {x : List Int} (h : Tr x) : ∀ l : List Int, (l ++ x).takeWhile isTok = l.takeWhile isTok
  | [] => h.take
  | c :: l => by
    rw [List.cons_append, List.takeWhile_cons, List.takeWhile_cons, take_app h l]
theorem drop_app {x : List Int} (h : Tr x) : ∀ l : List Int, (l ++ x).dropWhile isTok = l.dropWhile isTok ++ x
  | [] => h.drop
  | c :: l => by
    rw [List.cons_append, List.dropWhile_cons, List.dropWhile_cons, drop_app h l]
    cases isTok c <;> rfl
theorem bl_app_nil {x : List Int} : ∀ l : List Int, l.dropWhile isBl = [] → (l ++ x).dropWhile isBl = x.dropWhile isBl
  | [], _ => rfl
  | c :: l, h => by
    rw [List.dropWhile_cons] at h
    rw [List.cons_append, List.dropWhile_cons]
    cases hc : isBl c with
    | true => rw [hc] at h; exact bl_app_nil l h
    | false => rw [hc] at h; cases h
theorem bl_app_cons {x : List Int} : ∀ (l r : List Int) (c : Int), l.dropWhile isBl = c :: r → (l ++ x).dropWhile isBl = c :: (r ++ x)
  | [], _, _, h => by cases h
  | a :: l, r, c, h => by
    rw [List.dropWhile_cons] at h
    rw [List.cons_append, List.dropWhile_cons]
    cases hc : isBl a with
    | true => rw [hc] at h; exact bl_app_cons l r c h
    | false =>
      rw [hc] at h
      injection h with h1 h2
      rw [h1, h2]
      rfl
theorem quoA_no : ∀ (n : Nat) (acc x : List Int), x.length ≤ n → (∀ c ∈ x, c ≠ 34) → quoA acc x = none
  | _, acc, [], _, _ => quoA_nil acc
  | 0, acc, c :: r, h, _ => by simp at h
  | n + 1, acc, c :: r, h, hx => by
    simp only [List.length_cons] at h
    have h1 := hx c (List.mem_cons_self ..)
    by_cases e2 : c = 92
    · subst e2
      cases r with
      | nil => rfl
      | cons d r =>
        simp only [List.length_cons] at h
        cases he : isEsc d with
        | false => exact quoA_esc_no he acc r
        | true => rw [quoA_esc he]; exact quoA_no n _ r (by omega) (fun c hc => hx c (by simp [hc]))
    · cases hi : isQt c with
      | false => exact quoA_out hi h1 e2 acc r
      | true => rw [quoA_in hi]; exact quoA_no n _ r (by omega) (fun c hc => hx c (by simp [hc]))
theorem Tr.noq {x : List Int} (h : Tr x) : ∀ c ∈ x, c ≠ 34 := by
  intro c hc
  rcases tr_is (h c hc) with rfl | rfl | rfl <;> decide
theorem quoA_app {x : List Int} (h : Tr x) : ∀ (n : Nat) (acc l : List Int), l.length ≤ n → quoA acc (l ++ x) = (quoA acc l).map fun vu => (vu.1, vu.2 ++ x)
  | _, acc, [], _ => quoA_no x.length acc x (Nat.le_refl _) h.noq
  | 0, acc, c :: r, hn => by simp at hn
  | n + 1, acc, c :: r, hn => by
    simp only [List.length_cons] at hn
    rw [List.cons_append]
    by_cases e1 : c = 34
    · subst e1
      rw [quoA_quote, quoA_quote]
      rfl
    · by_cases e2 : c = 92
      · subst e2
        cases r with
        | nil =>
          rw [quoA_esc_end]
          exact quoA_no (92 :: x).length acc (92 :: x) (Nat.le_refl _) (by
            intro c hc
            rcases List.mem_cons.1 hc with rfl | hc
            · decide
            · exact h.noq c hc)
        | cons d r =>
          simp only [List.length_cons] at hn
          rw [List.cons_append]
          cases he : isEsc d with
          | false => rw [quoA_esc_no he, quoA_esc_no he]; rfl
          | true => rw [quoA_esc he, quoA_esc he]; exact quoA_app h n _ r (by omega)
      · cases hi : isQt c with
        | false => rw [quoA_out hi e1 e2, quoA_out hi e1 e2]; rfl
        | true => rw [quoA_in hi, quoA_in hi]; exact quoA_app h n _ r (by omega)
theorem valN_app {x : List Int} (h : Tr x) (l : List Int) : valN (l ++ x) = (valN l).map fun vu => (vu.1, vu.2 ++ x) := by
  cases l with
  | nil =>
    cases x with
    | nil => rfl
    | cons c r =>
      have h1 : c ≠ 34 := h.noq c (List.mem_cons_self ..)
      show valN (c :: r) = none
      unfold valN
      simp only
      rw [if_neg h1, tr_notTok h.head]
      rfl
  | cons c r =>
    rw [List.cons_append]
    by_cases e1 : c = 34
    · subst e1
      rw [valN_quote, valN_quote]
      exact quoA_app h _ _ r (Nat.le_refl _)
    · rw [valN_tok (by simpa using e1), valN_tok (by simpa using e1), ← List.cons_append, take_app h, drop_app h]
      split <;> rfl
theorem parN_app {x : List Int} (h : Tr x) (l : List Int) : parN (l ++ x) = (parN l).map fun pu => (pu.1, pu.2 ++ x) := by
  by_cases c1 : l.takeWhile isTok = []
  · rw [parN_no c1, parN_no (by rw [take_app h]; exact c1)]
    rfl
  · cases c2 : l.dropWhile isTok with
    | nil =>
      rw [parN_end c2]
      have h2 : (l ++ x).dropWhile isTok = x := by rw [drop_app h, c2]; rfl
      cases x with
      | nil => exact parN_end h2
      | cons c r =>
        refine parN_other h2 ?_
        rcases tr_is h.head with rfl | rfl | rfl <;> decide
    | cons g t =>
      have h2 : (l ++ x).dropWhile isTok = g :: (t ++ x) := by rw [drop_app h, c2]; rfl
      by_cases c3 : g = 61
      · subst c3
        rw [parN_eq c1 c2, parN_eq (by rw [take_app h]; exact c1) h2, take_app h, valN_app h]
        cases valN t <;> rfl
      · rw [parN_other c2 c3, parN_other h2 c3]
        rfl
theorem tr_some : ∀ (n : Nat) (acc : List (List Int × List Int)) (x : List Int), Tr x → x.length ≤ n → parW acc (x.dropWhile isBl) = some acc
  | n, acc, x, h, hn => by
    have hb := h.bl
    have hl := dropWhile_len isBl x
    cases hd : x.dropWhile isBl with
    | nil => rfl
    | cons c r =>
      rw [hd] at hb hl
      have hc := bl_head hd
      have h59 : c = 59 := by
        rcases hb.head with h1 | h1
        · rw [hc] at h1; cases h1
        · exact h1
      subst h59
      simp only [List.length_cons] at hl
      cases hr : r.dropWhile isBl with
      | nil => exact parW_end acc r hr
      | cons d q =>
        have hbr := hb.tail.bl
        rw [hr] at hbr
        have hdb := bl_head hr
        have hd59 : d = 59 := by
          rcases hbr.head with h1 | h1
          · rw [hdb] at h1; cases h1
          · exact h1
        subst hd59
        cases n with
        | zero => omega
        | succ n =>
          rw [parW_semi acc r q hr, ← hr]
          exact tr_some n acc r hb.tail (by omega)
theorem parW_app {x : List Int} (h : Tr x) : ∀ (n : Nat) (acc : List (List Int × List Int)) (l : List Int), l.length ≤ n → parW acc ((l ++ x).dropWhile isBl) = parW acc (l.dropWhile isBl)
  | n, acc, l, hn => by
    have hl := dropWhile_len isBl l
    cases hd : l.dropWhile isBl with
    | nil =>
      rw [bl_app_nil l hd]
      exact tr_some _ acc x h (Nat.le_refl _)
    | cons c r =>
      rw [bl_app_cons l r c hd]
      rw [hd] at hl
      simp only [List.length_cons] at hl
      by_cases c59 : c = 59
      · subst c59
        have hlr := dropWhile_len isBl r
        cases n with
        | zero => omega
        | succ n =>
          cases hr : r.dropWhile isBl with
          | nil =>
            rw [parW_end acc r hr]
            have h1 := bl_app_nil (x := x) r hr
            have h2 := tr_some _ acc x h (Nat.le_refl _)
            cases hx : x.dropWhile isBl with
            | nil => exact parW_end acc _ (by rw [h1, hx])
            | cons d q =>
              have hb := h.bl
              rw [hx] at hb h1 h2
              have hdb := bl_head hx
              have hd59 : d = 59 := by
                rcases hb.head with h1 | h1
                · rw [hdb] at h1; cases h1
                · exact h1
              subst hd59
              rw [parW_semi acc _ q h1]
              exact h2
          | cons d q =>
            rw [hr] at hlr
            simp only [List.length_cons] at hlr
            have h1 := bl_app_cons (x := x) r q d hr
            by_cases d59 : d = 59
            · subst d59
              rw [parW_semi acc r q hr, parW_semi acc _ _ h1]
              have := parW_app h n acc (59 :: q) (by simp only [List.length_cons]; omega)
              rw [List.dropWhile_cons, List.cons_append, List.dropWhile_cons] at this
              exact this
            · have hp := parN_app h (d :: q)
              rw [List.cons_append] at hp
              cases hq : parN (d :: q) with
              | none =>
                rw [hq] at hp
                rw [parW_bad acc r q d hr d59 hq, parW_bad acc _ _ d h1 d59 hp]
              | some pu =>
                obtain ⟨p, u⟩ := pu
                rw [hq] at hp
                have hul := parN_len hq
                simp only [List.length_cons] at hul
                rw [parW_par acc r q u d p hr d59 hq, parW_par acc _ _ (u ++ x) d p h1 d59 hp]
                exact parW_app h n _ u (by omega)
      · rw [parW_no c59, parW_no c59]
/-- what stands behind makes no difference. -/
theorem parseN_behind {x : List Int} (h : Tr x) (l : List Int) : parseN (l ++ x) = parseN l := by
  cases hd : l.dropWhile isBl with
  | nil =>
    rw [parseN_no1 (l := l) (by rw [hd]; rfl), parseN_no1]
    rw [bl_app_nil l hd]
    exact h.bl.take
  | cons c0 r0 =>
    have h0 := bl_app_cons (x := x) l r0 c0 hd
    rw [← List.cons_append, ← hd] at h0
    by_cases c1 : (l.dropWhile isBl).takeWhile isTok = []
    · rw [parseN_no1 c1, parseN_no1 (by rw [h0, take_app h]; exact c1)]
    · have hdw : ((l ++ x).dropWhile isBl).dropWhile isTok = (l.dropWhile isBl).dropWhile isTok ++ x := by rw [h0, drop_app h]
      cases c2 : (l.dropWhile isBl).dropWhile isTok with
      | nil =>
        rw [parseN_no2 c2]
        rw [c2, List.nil_append] at hdw
        cases x with
        | nil => exact parseN_no2 hdw
        | cons c r =>
          refine parseN_no3 hdw ?_
          rcases tr_is h.head with rfl | rfl | rfl <;> decide
      | cons c r =>
        rw [c2, List.cons_append] at hdw
        by_cases c3 : c = 47
        · subst c3
          by_cases c4 : r.takeWhile isTok = []
          · rw [parseN_no4 c2 c4, parseN_no4 hdw (by rw [take_app h]; exact c4)]
          · rw [parseN_eq c1 c2 c4, parseN_eq (by rw [h0, take_app h]; exact c1) hdw (by rw [take_app h]; exact c4), h0, take_app h, take_app h, drop_app h, parW_app h _ _ _ (Nat.le_refl _)]
        · rw [parseN_no3 c2 c3, parseN_no3 hdw c3]
/-- blanks ahead make no difference. -/
theorem parseN_ahead (b l : List Int) (hb : ∀ c ∈ b, isBl c = true) : parseN (b ++ l) = parseN l := by
  have hd : (b ++ l).dropWhile isBl = l.dropWhile isBl := by
    refine bl_app_nil b ?_
    clear l
    induction b with
    | nil => rfl
    | cons c b ih =>
      rw [List.dropWhile_cons, hb c (List.mem_cons_self ..)]
      exact ih (fun d hd => hb d (List.mem_cons_of_mem _ hd))
  by_cases c1 : (l.dropWhile isBl).takeWhile isTok = []
  · rw [parseN_no1 c1, parseN_no1 (by rw [hd]; exact c1)]
  · cases c2 : (l.dropWhile isBl).dropWhile isTok with
    | nil => rw [parseN_no2 c2, parseN_no2 (by rw [hd]; exact c2)]
    | cons c r =>
      by_cases c3 : c = 47
      · subst c3
        by_cases c4 : r.takeWhile isTok = []
        · rw [parseN_no4 c2 c4, parseN_no4 (by rw [hd]; exact c2) c4]
        · rw [parseN_eq c1 c2 c4, parseN_eq (by rw [hd]; exact c1) (by rw [hd]; exact c2) c4, hd]
      · rw [parseN_no3 c2 c3, parseN_no3 (by rw [hd]; exact c2) c3]
end Go.Proofs.Ytjemlaiciacnpaa
