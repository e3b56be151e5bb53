/-
  UTF-8 in plain terms: the laws of layer 2. No program in sight.
-/
import Derived.Test.YtkdkoondchbekaaU8M
namespace Go.Proofs.Ytkdkoondchbekaa
theorem isBs_encN (r : Int) : isBs (encN r) := by
  intro x hx
  by_cases h : isSc r = true
  · have hr := (isSc_iff r).1 h
    unfold encN at hx
    rw [if_neg (by rw [h]; decide)] at hx
    by_cases h1 : r < 128
    · rw [if_pos h1] at hx; simp only [List.mem_cons, List.not_mem_nil, or_false] at hx; omega
    · rw [if_neg h1] at hx
      by_cases h2 : r < 2048
      · rw [if_pos h2] at hx; simp only [List.mem_cons, List.not_mem_nil, or_false] at hx; omega
      · rw [if_neg h2] at hx
        by_cases h3 : r < 65536
        · rw [if_pos h3] at hx; simp only [List.mem_cons, List.not_mem_nil, or_false] at hx; omega
        · rw [if_neg h3] at hx; simp only [List.mem_cons, List.not_mem_nil, or_false] at hx; omega
  · rw [encN_none (by simpa using h)] at hx; cases hx
theorem isBs_encAll (xs : List Int) : isBs (encAll xs) := by
  intro x hx
  obtain ⟨r, _, h⟩ := List.mem_flatMap.1 hx
  exact isBs_encN r x h
theorem encAll_cons (r : Int) (xs : List Int) : encAll (r :: xs) = encN r ++ encAll xs := rfl
theorem scAll_cons (r : Int) (xs : List Int) : scAll (r :: xs) = (isSc r && scAll xs) := rfl
theorem encN_ne {r : Int} (h : isSc r = true) : encN r ≠ [] := by
  have hr := (isSc_iff r).1 h
  unfold encN
  rw [if_neg (by rw [h]; decide)]
  (repeat' split) <;> simp
/-- text of scalars, and whatever stands behind. -/
theorem pieces_encAll (xs : List Int) (h : scAll xs = true) (t : List Int) : pieces (encAll xs ++ t) = xs.map (fun r => (r, (encN r).length)) ++ pieces t := by
  induction xs with
  | nil => rfl
  | cons r xs ih =>
    rw [scAll_cons, Bool.and_eq_true] at h
    rw [encAll_cons, List.append_assoc, pieces_ne _ (by simp [encN_ne h.1]), piece_of_enc r h.1]
    simp only [List.drop_left, List.map_cons, List.cons_append]
    rw [ih h.2]
theorem pieces_encAll' (xs : List Int) (h : scAll xs = true) : pieces (encAll xs) = xs.map (fun r => (r, (encN r).length)) := by
  have := pieces_encAll xs h []
  rwa [List.append_nil, pieces_nil, List.append_nil] at this
theorem scAll_mem {xs : List Int} (h : scAll xs = true) {r : Int} (hr : r ∈ xs) : isSc r = true := List.all_eq_true.1 h r hr
theorem okAll_encAll (xs : List Int) (h : scAll xs = true) : okAll (encAll xs) = true := by
  unfold okAll
  rw [pieces_encAll' xs h, List.all_map, List.all_eq_true]
  intro r hr
  exact decide_eq_true ((isSc_iff r).1 (scAll_mem h hr)).1
theorem scalL_encAll (xs : List Int) (h : scAll xs = true) : scalL (encAll xs) = xs := by
  unfold scalL
  rw [if_pos (okAll_encAll xs h), pieces_encAll' xs h, List.map_map]
  exact List.map_id xs
/-- right text is what its scalars make. -/
theorem pcs_ok : ∀ (f : Nat) (l : List Int), l.length ≤ f → isBs l → (pcs f l).all okP = true → scAll ((pcs f l).map (·.1)) = true ∧ encAll ((pcs f l).map (·.1)) = l
  | 0, l, hf, _, _ => by
    obtain rfl : l = [] := List.eq_nil_of_length_eq_zero (by omega)
    exact ⟨rfl, rfl⟩
  | f + 1, [], _, _, _ => ⟨rfl, rfl⟩
  | f + 1, c :: t, hf, hb, h => by
    rw [pcs, List.all_cons, Bool.and_eq_true] at h
    have hn := piece_n c t
    have hp := piece_enc (c :: t) hb (of_decide_eq_true h.1)
    obtain ⟨h1, h2⟩ := pcs_ok f ((c :: t).drop (piece (c :: t)).2) (by rw [List.length_drop]; simp only [List.length_cons] at *; omega) (fun x hx => hb x (List.mem_of_mem_drop hx)) h.2
    rw [pcs, List.map_cons, scAll_cons, encAll_cons, hp.1, h1, hp.2, h2]
    exact ⟨rfl, List.take_append_drop _ _⟩
theorem ok_scal (l : List Int) (hb : isBs l) (h : okAll l = true) : scAll (scalL l) = true ∧ encAll (scalL l) = l := by
  unfold scalL
  rw [if_pos h]
  exact pcs_ok l.length l (Nat.le_refl _) hb h
/-- what is told loosely is text of scalars. -/
def mended (l : List Int) : List Int := (pieces l).map fun p => if p.1 < 0 then 65533 else p.1
theorem pcs_sc : ∀ (f : Nat) (l : List Int), isBs l → ∀ p ∈ pcs f l, 0 ≤ p.1 → isSc p.1 = true
  | 0, l, _, p, hp, _ => by simp [pcs] at hp
  | f + 1, [], _, p, hp, _ => by simp [pcs] at hp
  | f + 1, c :: t, hb, p, hp, h0 => by
    rw [pcs, List.mem_cons] at hp
    rcases hp with rfl | hp
    · exact (piece_enc (c :: t) hb h0).1
    · exact pcs_sc f _ (fun x hx => hb x (List.mem_of_mem_drop hx)) p hp h0
theorem mended_sc (l : List Int) (hb : isBs l) : scAll (mended l) = true := by
  unfold scAll mended
  rw [List.all_map, List.all_eq_true]
  intro p hp
  show isSc (if p.1 < 0 then 65533 else p.1) = true
  by_cases h : p.1 < 0
  · rw [if_pos h]; rfl
  · rw [if_neg h]; exact pcs_sc _ l hb p hp (by omega)
theorem looseN_mended (l : List Int) : looseN l = encAll (mended l) := by
  unfold looseN mended encAll
  rw [List.flatMap_map]
  congr 1
  funext p
  unfold mend
  by_cases h : p.1 < 0
  · rw [if_pos h, if_pos h]; rfl
  · rw [if_neg h, if_neg h]
theorem looseN_isBs (l : List Int) : isBs (looseN l) := by rw [looseN_mended]; exact isBs_encAll _
theorem okAll_loose (l : List Int) (hb : isBs l) : okAll (looseN l) = true := by rw [looseN_mended]; exact okAll_encAll _ (mended_sc l hb)
theorem loose_ok (l : List Int) (hb : isBs l) (h : okAll l = true) : looseN l = l := by
  obtain ⟨h1, h2⟩ := ok_scal l hb h
  rw [looseN_mended]
  have : mended l = scalL l := by
    unfold mended scalL
    rw [if_pos h]
    apply List.map_congr_left
    intro p hp
    have : okP p = true := List.all_eq_true.1 h p hp
    rw [if_neg (by have := of_decide_eq_true this; omega)]
  rw [this, h2]
theorem firstP_none : ∀ (a : Nat) (l : List (Int × Nat)), l.all okP = true → firstP a l = -1
  | _, [], _ => rfl
  | a, p :: r, h => by
    rw [List.all_cons, Bool.and_eq_true] at h
    rw [firstP, if_neg (by have := of_decide_eq_true h.1; omega), firstP_none _ r h.2]
theorem firstP_some : ∀ (a : Nat) (l : List (Int × Nat)), l.all okP = false → 0 ≤ firstP a l
  | _, [], h => by cases h
  | a, p :: r, h => by
    rw [firstP]
    by_cases hp : p.1 < 0
    · rw [if_pos hp]; omega
    · rw [if_neg hp]
      rw [List.all_cons, show okP p = true from decide_eq_true (by omega), Bool.true_and] at h
      exact firstP_some _ r h
theorem firstN_none (l : List Int) (h : okAll l = true) : firstN l = -1 := firstP_none 0 _ h
theorem firstN_some (l : List Int) (h : okAll l = false) : 0 ≤ firstN l := firstP_some 0 _ h
theorem sLen_enc (r : Int) : sLen r = ((encN r).length : Int) := by
  unfold sLen encN
  by_cases h : isSc r = false
  · rw [if_pos h, if_pos h]; rfl
  · rw [if_neg h, if_neg h]
    (repeat' split) <;> rfl
/-! texts put together -/
theorem piece_app_conts (m : Nat) (r fr to : Int) (n : Nat) (l c : List Int) (hc : ∀ x ∈ c.head?, x < 128 ∨ 194 ≤ x) (hfr : 128 ≤ fr) (hto : to ≤ 191) :
    conts m r fr to n (l ++ c) = conts m r fr to n l := by
  induction m generalizing r fr to n l with
  | zero => cases l <;> cases c <;> simp [conts]
  | succ m ih =>
    cases l with
    | nil =>
      cases c with
      | nil => rfl
      | cons x c =>
        have := hc x rfl
        rw [List.nil_append, conts, conts, if_pos (by omega)]
    | cons y l =>
      rw [List.cons_append, conts, conts]
      by_cases h : y < fr ∨ to < y
      · rw [if_pos h, if_pos h]
      · rw [if_neg h, if_neg h, ih _ _ _ _ _ (by omega) (by omega)]
theorem piece_app (b : Int) (t c : List Int) (hc : ∀ x ∈ c.head?, x < 128 ∨ 194 ≤ x) : piece (b :: t ++ c) = piece (b :: t) := by
  have hf := fFrom_lo b
  have ht := fTo_lo b
  rw [List.cons_append, piece, piece]
  by_cases h : fMore b < 0
  · rw [if_pos h, if_pos h]
  · rw [if_neg h, if_neg h, piece_app_conts _ _ _ _ _ _ _ hc (by omega) (by omega)]
theorem pieces_app_len : ∀ (n : Nat) (b c : List Int), b.length ≤ n → (∀ x ∈ c.head?, x < 128 ∨ 194 ≤ x) → pieces (b ++ c) = pieces b ++ pieces c
  | 0, b, c, h, _ => by
    obtain rfl : b = [] := List.eq_nil_of_length_eq_zero (by omega)
    rfl
  | n + 1, [], c, _, _ => rfl
  | n + 1, x :: t, c, h, hc => by
    have hp := piece_app x t c hc
    have hn := piece_n x t
    rw [pieces_ne (x :: t ++ c) (by simp), pieces_cons x t, hp, List.drop_append_of_le_length hn.2.1, List.cons_append,
      pieces_app_len n ((x :: t).drop (piece (x :: t)).2) c (by rw [List.length_drop]; simp only [List.length_cons] at *; omega) hc]
theorem ok_head (c : List Int) (hb : isBs c) (h : okAll c = true) : ∀ x ∈ c.head?, x < 128 ∨ 194 ≤ x := by
  intro x hx
  cases c with
  | nil => cases hx
  | cons y t =>
    obtain rfl : y = x := by simpa using hx
    unfold okAll at h
    rw [pieces_cons, List.all_cons, Bool.and_eq_true] at h
    have h0 : 0 ≤ (piece (y :: t)).1 := of_decide_eq_true h.1
    by_cases h1 : y < 128
    · exact .inl h1
    · by_cases h2 : 194 ≤ y
      · exact .inr h2
      · rw [piece, fMore_bad (by omega) (by omega)] at h0
        simp at h0
theorem pieces_parts (a b c : List Int) (ha : isBs a) (hc : isBs c) (oa : okAll a = true) (oc : okAll c = true) : pieces (a ++ (b ++ c)) = pieces a ++ (pieces b ++ pieces c) := by
  obtain ⟨h1, h2⟩ := ok_scal a ha oa
  have e := pieces_encAll _ h1 (b ++ c)
  have e' := pieces_encAll' _ h1
  rw [h2] at e e'
  rw [e, ← e', pieces_app_len b.length b c (Nat.le_refl _) (ok_head c hc oc)]
theorem looseN_parts (a b c : List Int) (ha : isBs a) (hc : isBs c) (oa : okAll a = true) (oc : okAll c = true) : looseN (a ++ (b ++ c)) = a ++ (looseN b ++ c) := by
  unfold looseN
  rw [pieces_parts a b c ha hc oa oc, List.flatMap_append, List.flatMap_append]
  have h1 := loose_ok a ha oa
  have h3 := loose_ok c hc oc
  unfold looseN at h1 h3
  rw [h1, h3]
theorem pcs_sum : ∀ (f : Nat) (l : List Int), l.length ≤ f → ((pcs f l).map (·.2)).sum = l.length
  | 0, l, hf => by
    obtain rfl : l = [] := List.eq_nil_of_length_eq_zero (by omega)
    rfl
  | f + 1, [], _ => rfl
  | f + 1, c :: t, hf => by
    have hn := piece_n c t
    rw [pcs, List.map_cons, List.sum_cons, pcs_sum f _ (by rw [List.length_drop]; simp only [List.length_cons] at *; omega), List.length_drop]
    omega
theorem firstP_app (m : List (Int × Nat)) : ∀ (a : Nat) (l : List (Int × Nat)), l.all okP = true → firstP a (l ++ m) = firstP (a + (l.map (·.2)).sum) m
  | a, [], _ => by simp
  | a, p :: r, h => by
    rw [List.all_cons, Bool.and_eq_true] at h
    rw [List.cons_append, firstP, if_neg (by have := of_decide_eq_true h.1; omega), firstP_app m _ r h.2]
    simp [Nat.add_assoc]
theorem firstP_app_ok (m : List (Int × Nat)) (hm : m.all okP = true) : ∀ (a : Nat) (l : List (Int × Nat)), firstP a (l ++ m) = firstP a l
  | a, [] => by rw [List.nil_append, firstP_none a m hm]; rfl
  | a, p :: r => by
    rw [List.cons_append, firstP, firstP, firstP_app_ok m hm]
theorem firstP_shift (k : Nat) : ∀ (a : Nat) (l : List (Int × Nat)), firstP (a + k) l = if firstP a l < 0 then firstP a l else firstP a l + k
  | a, [] => by simp [firstP]
  | a, p :: r => by
    rw [firstP, firstP]
    by_cases h : p.1 < 0
    · rw [if_pos h, if_pos h, if_neg (by omega)]; simp
    · rw [if_neg h, if_neg h, show a + k + p.2 = a + p.2 + k by omega, firstP_shift k]
theorem firstP_hi : ∀ (a : Nat) (l : List (Int × Nat)), firstP a l ≤ a + (l.map (·.2)).sum
  | a, [] => by rw [firstP]; omega
  | a, p :: r => by
    have := firstP_hi (a + p.2) r
    rw [firstP, List.map_cons, List.sum_cons]
    split <;> omega
theorem firstN_hi (l : List Int) : firstN l ≤ l.length := by
  have h := firstP_hi 0 (pieces l)
  have h2 : ((pieces l).map (·.2)).sum = l.length := pcs_sum l.length l (Nat.le_refl _)
  unfold firstN
  omega
theorem firstN_parts (a b c : List Int) (ha : isBs a) (hc : isBs c) (oa : okAll a = true) (oc : okAll c = true) : firstN (a ++ (b ++ c)) = if firstN b < 0 then firstN b else firstN b + a.length := by
  unfold firstN
  rw [pieces_parts a b c ha hc oa oc, firstP_app _ 0 _ oa, firstP_app_ok _ oc, firstP_shift]
  have : ((pieces a).map (·.2)).sum = a.length := pcs_sum a.length a (Nat.le_refl _)
  rw [this]
end Go.Proofs.Ytkdkoondchbekaa
