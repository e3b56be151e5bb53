/-
  Names and lines in plain terms: the laws of layer 9. No program in sight.
-/
import Derived.Test.YtkdkoondchbekaaChP
namespace Go.Proofs.Ytkdkoondchbekaa
/-- what stands ahead of the first colon, and behind it. -/
def cutN : List Int → List Int × List Int × Bool
  | [] => ([], [], false)
  | c :: t => if c = 58 then ([], t, true) else (c :: (cutN t).1, (cutN t).2.1, (cutN t).2.2)
def splitN (l : List Int) : List Int × List Int × Bool :=
  if (cutN l).2.2 then (if plainN (cutN l).1 && plainN (cutN l).2.1 then ((cutN l).1, (cutN l).2.1, true) else ([], [], false))
  else if plainN l then ([], l, true) else ([], [], false)
theorem cutN_no : ∀ (l : List Int), 58 ∉ l → cutN l = (l, [], false)
  | [], _ => rfl
  | c :: t, h => by
    rw [List.mem_cons, not_or] at h
    rw [cutN, if_neg (fun e => h.1 e.symm), cutN_no t h.2]
theorem cutN_at : ∀ (a b : List Int), 58 ∉ a → cutN (a ++ 58 :: b) = (a, b, true)
  | [], b, _ => by simp [cutN]
  | c :: t, b, h => by
    rw [List.mem_cons, not_or] at h
    rw [List.cons_append, cutN, if_neg (fun e => h.1 e.symm), cutN_at t b h.2]
theorem mem_split58 : ∀ (l : List Int), 58 ∈ l → ∃ a b, l = a ++ 58 :: b ∧ 58 ∉ a
  | [], h => by cases h
  | c :: t, h => by
    by_cases hc : c = 58
    · exact ⟨[], t, by rw [hc]; rfl, by simp⟩
    · rw [List.mem_cons] at h
      obtain ⟨a, b, h1, h2⟩ := mem_split58 t (h.resolve_left fun e => hc e.symm)
      exact ⟨c :: a, b, by rw [h1]; rfl, by rw [List.mem_cons, not_or]; exact ⟨fun e => hc e.symm, h2⟩⟩
theorem frQ_fu {f : Int → Bool} {a : Nat} {r : Int} (h : frQ f a r = true) : f r = true := by unfold frQ at h; rw [Bool.and_eq_true] at h; exact h.2
theorem allP_mem {Q : Nat → Int → Bool} {f : Int → Bool} (hQ : ∀ a r, Q a r = true → f r = true) : ∀ (a : Nat) (l : List (Int × Nat)), allP Q a l = true → ∀ p ∈ l, f p.1 = true
  | _, [], _, p, hp => by cases hp
  | a, q :: r, h, p, hp => by
    rw [allP, Bool.and_eq_true] at h
    rw [List.mem_cons] at hp
    rcases hp with rfl | hp
    · exact hQ _ _ h.1
    · exact allP_mem hQ (a + q.2) r h.2 p hp
theorem allP_mono {Q R : Nat → Int → Bool} (hQ : ∀ a r, Q a r = true → R a r = true) : ∀ (a : Nat) (l : List (Int × Nat)), allP Q a l = true → allP R a l = true
  | _, [], _ => rfl
  | a, q :: r, h => by
    rw [allP, Bool.and_eq_true] at h
    rw [allP, hQ _ _ h.1, allP_mono hQ (a + q.2) r h.2]; rfl
theorem stopP_mono {Q R : Nat → Int → Bool} (hQ : ∀ a r, Q a r = true → R a r = true) : ∀ (a : Nat) (l : List (Int × Nat)), stopP Q a l ≤ stopP R a l
  | _, [] => Nat.le_refl _
  | a, q :: r => by
    rw [stopP, stopP]
    cases h : Q a q.1 with
    | true => rw [if_pos rfl, if_pos (hQ _ _ h)]; exact stopP_mono hQ (a + q.2) r
    | false =>
      rw [if_neg (by decide)]
      split
      · have := stopP_lo R (a + q.2) r; omega
      · exact Nat.le_refl _
theorem ok_of_ch {l : List Int} {f : Int → Bool} (hf : ∀ r, f r = true → chB r = true) (h : ∀ p ∈ pieces l, f p.1 = true) : okAll l = true := by
  unfold okAll
  rw [List.all_eq_true]
  intro p hp
  unfold okP
  rw [decide_eq_true_iff]
  by_cases h0 : p.1 < 0
  · have := hf _ (h p hp)
    rw [neg_ch h0] at this
    cases this
  · omega
/-- a plain name is made of its scalars. -/
theorem plain_enc (l : List Int) (hb : isBs l) (h : plainN l = true) : ∃ xs, l = encAll xs ∧ scAll xs = true ∧ (∀ r ∈ xs, fuB r = true) ∧ l ≠ [] ∧ allP (frQ fuB) 0 (pieces l) = true := by
  unfold plainN at h
  rw [Bool.and_eq_true, decide_eq_true_iff, front_all] at h
  obtain ⟨h0, h1⟩ := h
  have hm := allP_mem (fun _ _ e => frQ_fu e) 0 _ h1
  have ho := ok_of_ch (fun r e => fu_ch e) hm
  obtain ⟨h2, h3⟩ := ok_scal l hb ho
  refine ⟨scalL l, h3.symm, h2, ?_, h0, h1⟩
  intro r hr
  unfold scalL at hr
  rw [if_pos ho] at hr
  obtain ⟨p, hp, rfl⟩ := List.mem_map.1 hr
  exact hm p hp
theorem mem_encN {r c : Int} (h : c ∈ encN r) (hc : c < 128) : c = r := by
  by_cases hs : isSc r = true
  · have hr := (isSc_iff r).1 hs
    unfold encN at h
    rw [if_neg (by rw [hs]; decide)] at h
    split at h
    · simpa using h
    · split at h
      · simp at h; omega
      · split at h
        · simp at h; omega
        · simp at h; omega
  · rw [encN_none (by simpa using hs)] at h; cases h
theorem plain_58 (l : List Int) (hb : isBs l) (h : plainN l = true) : 58 ∉ l := by
  obtain ⟨xs, rfl, _, hf, _⟩ := plain_enc l hb h
  intro hm
  obtain ⟨r, hr, hc⟩ := List.mem_flatMap.1 hm
  have := mem_encN hc (by omega)
  have h2 := hf r hr
  rw [← this, fu_58] at h2
  cases h2
theorem isBs_app {a b : List Int} (ha : isBs a) (hb : isBs b) : isBs (a ++ b) := by
  intro x hx
  rw [List.mem_append] at hx
  exact hx.elim (ha x) (hb x)
theorem isBs_left {a b : List Int} (h : isBs (a ++ b)) : isBs a := fun x hx => h x (List.mem_append_left _ hx)
theorem isBs_right {a b : List Int} (h : isBs (a ++ b)) : isBs b := fun x hx => h x (List.mem_append_right _ hx)
theorem isBs_take {l : List Int} (h : isBs l) (n : Nat) : isBs (l.take n) := fun x hx => h x (List.mem_of_mem_take hx)
theorem isBs_drop {l : List Int} (h : isBs l) (n : Nat) : isBs (l.drop n) := fun x hx => h x (List.mem_of_mem_drop hx)
/-- what the reference's loop finds. -/
def splitR : List Int → List Int → List Int × List Int × Bool
  | _, [] => ([], [], false)
  | p, c :: t => if (decide (c = 58) && plainN p) && plainN t then (p, t, true) else splitR (p ++ [c]) t
theorem splitR_no : ∀ (p t : List Int), isBs (p ++ t) → 58 ∈ p → splitR p t = ([], [], false)
  | _, [], _, _ => rfl
  | p, c :: t, hb, h => by
    have hp : plainN p = false := by
      cases e : plainN p with
      | false => rfl
      | true => exact absurd h (plain_58 p (isBs_left hb) e)
    rw [splitR, hp, if_neg (by simp)]
    exact splitR_no (p ++ [c]) t (by rw [List.append_assoc]; exact hb) (List.mem_append_left _ h)
theorem splitR_58 : ∀ (a p b : List Int), isBs (p ++ (a ++ 58 :: b)) → 58 ∉ a → splitR p (a ++ 58 :: b) = if plainN (p ++ a) && plainN b then (p ++ a, b, true) else ([], [], false)
  | [], p, b, hb, _ => by
    rw [List.nil_append, splitR, List.append_nil]
    cases h1 : plainN p && plainN b with
    | true =>
      rw [Bool.and_eq_true] at h1
      rw [h1.1, h1.2]; simp
    | false =>
      have : (decide ((58 : Int) = 58) && plainN p && plainN b) = false := by simpa using h1
      rw [this, if_neg (by decide), if_neg (by decide)]
      exact splitR_no _ _ (by rw [List.append_assoc]; exact hb) (by simp)
  | c :: a, p, b, hb, h => by
    rw [List.mem_cons, not_or] at h
    rw [List.cons_append, splitR, if_neg (by rw [decide_eq_false (fun e => h.1 e.symm)]; simp), splitR_58 a (p ++ [c]) b (by simpa using hb) h.2]
    simp
theorem splitR_none : ∀ (p l : List Int), 58 ∉ l → splitR p l = ([], [], false)
  | _, [], _ => rfl
  | p, c :: t, h => by
    rw [List.mem_cons, not_or] at h
    rw [splitR, if_neg (by rw [decide_eq_false (fun e => h.1 e.symm)]; simp), splitR_none _ t h.2]
theorem split_ref (l : List Int) (hb : isBs l) : (if plainN l then ([], l, true) else splitR [] l) = splitN l := by
  unfold splitN
  by_cases h : 58 ∈ l
  · have hp : plainN l = false := by
      cases e : plainN l with
      | false => rfl
      | true => exact absurd h (plain_58 l hb e)
    obtain ⟨a, b, rfl, ha⟩ := mem_split58 l h
    rw [hp, if_neg (by decide), splitR_58 a [] b hb ha, cutN_at a b ha]
    rfl
  · rw [cutN_no l h, splitR_none [] l h]
    rfl
theorem tk_fu (a : Nat) (r : Int) (h : frQ fuB a r = true) : frQ tkB a r = true := by
  unfold frQ at *
  rw [Bool.and_eq_true] at h ⊢
  refine ⟨h.1, ?_⟩
  unfold tkB
  rw [h.2, Bool.or_true]
theorem take_plain (a : List Int) (h : allP (frQ fuB) 0 (pieces a) = true) : takeN a = a.length := by
  have := front_all tkB a
  rw [allP_mono tk_fu 0 _ h, decide_eq_true_iff] at this
  exact this
theorem pieces_58 (b : List Int) : pieces (58 :: b) = (58, 1) :: pieces b := by
  rw [pieces_cons]
  have : piece (58 :: b) = (58, 1) := by rw [piece]; simp [fMore, fBits, conts]
  rw [this]; rfl
theorem pieces_join (a b : List Int) (ha : isBs a) (h : plainN a = true) : pieces (a ++ 58 :: b) = pieces a ++ (58, 1) :: pieces b := by
  obtain ⟨xs, rfl, hs, _⟩ := plain_enc a ha h
  rw [pieces_encAll xs hs, pieces_58, pieces_encAll' xs hs]
theorem names_take (a b : List Int) (ha : isBs a) (hb : isBs b) (pa : plainN a = true) (pb : plainN b = true) : takeN (a ++ 58 :: b) = a.length + b.length + 1 := by
  obtain ⟨_, _, _, _, a0, a1⟩ := plain_enc a ha pa
  obtain ⟨_, _, _, _, b0, b1⟩ := plain_enc b hb pb
  have e := front_all tkB (a ++ 58 :: b)
  rw [pieces_join a b ha pa, allP_app, allP_mono tk_fu 0 _ a1, pieces_sum, allP] at e
  have hl : a.length ≠ 0 := by simpa using a0
  have h1 : frQ tkB (0 + a.length) 58 = true := by unfold frQ; simp [hl]; decide
  have h2 : allP (frQ tkB) (0 + a.length + 1) (pieces b) = true := by
    rw [allP_fr _ _ _ (by omega) (pieces_pos b), List.all_eq_true]
    intro p hp
    have := allP_mem (fun _ _ e => frQ_fu e) 0 _ b1 p hp
    unfold tkB
    rw [this, Bool.or_true]
  rw [h1, h2] at e
  have := of_decide_eq_true e
  unfold takeN
  rw [this]
  simp
  omega
theorem names_split (a b : List Int) (ha : isBs a) (hb : isBs b) : splitN (a ++ 58 :: b) = if plainN a && plainN b then (a, b, true) else ([], [], false) := by
  unfold splitN
  by_cases h : 58 ∈ a
  · have hp : plainN a = false := by
      cases e : plainN a with
      | false => rfl
      | true => exact absurd h (plain_58 a ha e)
    obtain ⟨x, y, rfl, hx⟩ := mem_split58 a h
    rw [List.append_assoc, List.cons_append, cutN_at x _ hx, if_pos rfl, hp]
    have h2 : plainN (y ++ 58 :: b) = false := by
      cases e : plainN (y ++ 58 :: b) with
      | false => rfl
      | true => exact absurd (by simp) (plain_58 _ (by have := isBs_right ha; intro z hz; rw [List.mem_append, List.mem_cons] at hz; rcases hz with hz | rfl | hz; exact this z (List.mem_cons_of_mem _ hz); omega; exact hb z hz) e)
    rw [if_neg (by rw [h2]; simp), if_neg (by simp)]
  · rw [cutN_at a b h, if_pos rfl]
theorem split_plain (a : List Int) (ha : isBs a) (h : plainN a = true) : splitN a = ([], a, true) := by
  unfold splitN
  rw [cutN_no a (plain_58 a ha h), if_neg (by simp), if_pos h]
/-- right pieces at the front are the pieces of what they are of. -/
theorem pre_split : ∀ (p : List (Int × Nat)) (l : List Int) (m : List (Int × Nat)), isBs l → pieces l = p ++ m → (∀ q ∈ p, 0 ≤ q.1) → pieces (l.take (p.map (·.2)).sum) = p
  | [], l, m, _, _, _ => by simp [pieces_nil]
  | q :: p, l, m, hb, h, h0 => by
    cases l with
    | nil => simp [pieces_nil] at h
    | cons c t =>
      rw [pieces_cons, List.cons_append] at h
      injection h with h1 h2
      have hq := h0 q (List.mem_cons_self ..)
      rw [← h1] at hq
      obtain ⟨e1, e2⟩ := piece_enc (c :: t) hb hq
      rw [h1] at e1 e2 h2
      have hn := piece_n c t
      rw [h1] at hn
      have ih := pre_split p ((c :: t).drop q.2) m (isBs_drop hb _) h2 fun x hx => h0 x (List.mem_cons_of_mem _ hx)
      have hs : (c :: t).take ((q :: p).map (·.2)).sum = encAll [q.1] ++ ((c :: t).drop q.2).take (p.map (·.2)).sum := by
        rw [List.map_cons, List.sum_cons, List.take_add, encAll_cons, e2]
        simp [encAll]
      have hl : (encN q.1).length = q.2 := by rw [e2, List.length_take]; omega
      rw [hs, pieces_encAll [q.1] (by simp [scAll, e1]), ih]
      simp [hl]
theorem bad_cut (l : List Int) (hb : isBs l) (h : badN l ≠ -1) : badN (l.take (badN l).toNat) = -1 ∧ badN (l.drop (badN l).toNat) = 0 := by
  unfold badN at h
  split at h
  · exact absurd rfl h
  · have e0 : badN l = badK l := by unfold badN; rw [if_neg (by assumption)]
    have hlt : badK l < l.length := by have := badK_hi l; omega
    rw [e0, Int.toNat_natCast]
    obtain ⟨p, m, h1, h2, h3, h4, h5⟩ := stop_split (fun _ r => chB r) l.length 0 l (Nat.le_refl _)
    have hk : (p.map (·.2)).sum = badK l := by unfold badK; omega
    have hpos : ∀ q ∈ p, 0 ≤ q.1 := by
      intro q hq
      have := allP_mem (f := chB) (fun _ _ e => e) 0 p h2 q hq
      by_cases hn : q.1 < 0
      · rw [neg_ch hn] at this; cases this
      · omega
    have ht := pre_split p l m hb h1 hpos
    rw [hk] at ht h4
    constructor
    · unfold badN
      have := bad_all (l.take (badK l))
      rw [ht, h2, decide_eq_true_iff] at this
      rw [if_pos this]
    · have hne : l.drop (badK l) ≠ [] := by simp; omega
      have hm : pieces (l.drop (badK l)) = piece (l.drop (badK l)) :: pieces ((l.drop (badK l)).drop (piece (l.drop (badK l))).2) := pieces_ne _ hne
      have hq := h5 _ _ (h4.trans hm)
      have hz : badK (l.drop (badK l)) = 0 := by
        show stopP _ 0 (pieces (l.drop (badK l))) = 0
        rw [hm, stopP, if_neg (by show ¬ chB _ = true; rw [show chB (piece (l.drop (badK l))).1 = false from hq]; decide)]
      unfold badN
      rw [hz, if_neg (by rw [List.length_drop]; omega)]
      rfl
theorem take_cut (l : List Int) (hb : isBs l) : takeN (l.take (takeN l)) = takeN l := by
  obtain ⟨p, m, h1, h2, h3, h4, h5⟩ := stop_split (frQ tkB) l.length 0 l (Nat.le_refl _)
  have hk : (p.map (·.2)).sum = takeN l := by unfold takeN frontN; omega
  have hpos : ∀ q ∈ p, 0 ≤ q.1 := by
    intro q hq
    have := tk_ch (allP_mem (f := tkB) (fun _ _ e => frQ_fu e) 0 p h2 q hq)
    by_cases hn : q.1 < 0
    · rw [neg_ch hn] at this; cases this
    · omega
  have ht := pre_split p l m hb h1 hpos
  rw [hk] at ht
  have := front_all tkB (l.take (takeN l))
  rw [ht, h2, decide_eq_true_iff, List.length_take] at this
  have hh : takeN l ≤ l.length := front_hi tkB l
  show frontN tkB _ = _
  rw [this]; omega
theorem bad_ok (l : List Int) (h : badN l = -1) : okAll l = true := by
  have hk : badK l = l.length := by
    unfold badN at h
    split at h
    · assumption
    · omega
  have := bad_all l
  rw [decide_eq_true hk] at this
  exact ok_of_ch (f := chB) (fun _ e => e) (allP_mem (f := chB) (fun _ _ e => e) 0 _ this.symm)
theorem take_bad (l : List Int) (h : badN l ≠ -1) : (takeN l : Int) ≤ badN l := by
  have e0 : badN l = badK l := by
    unfold badN at *
    split at h
    · exact absurd rfl h
    · rw [if_neg (by assumption)]
  rw [e0]
  have : takeN l ≤ badK l := stopP_mono (fun _ _ e => tk_ch (frQ_fu e)) 0 _
  omega
theorem badN_lt (l : List Int) : badN l < l.length ∨ l = [] := by
  unfold badN
  have := badK_hi l
  split
  · by_cases h : l = []
    · exact .inr h
    · left; omega
  · left; omega
/-- lines made plain. -/
def linesN : List Int → List Int
  | [] => []
  | c :: t => if c = 13 then (if t.head? = some 10 then linesN t else 10 :: linesN t) else c :: linesN t
theorem lines_13 : ∀ l : List Int, 13 ∉ linesN l
  | [] => by simp [linesN]
  | c :: t => by
    have ih := lines_13 t
    rw [linesN]
    split
    · split
      · exact ih
      · rw [List.mem_cons, not_or]; exact ⟨by omega, ih⟩
    · rw [List.mem_cons, not_or]; exact ⟨fun e => by omega, ih⟩
theorem lines_id : ∀ l : List Int, 13 ∉ l → linesN l = l
  | [], _ => rfl
  | c :: t, h => by
    rw [List.mem_cons, not_or] at h
    rw [linesN, if_neg (fun e => h.1 e.symm), lines_id t h.2]
theorem lines_len : ∀ l : List Int, (linesN l).length ≤ l.length
  | [] => by simp [linesN]
  | c :: t => by
    have ih := lines_len t
    rw [linesN]
    split
    · split
      · simp only [List.length_cons]; omega
      · simp only [List.length_cons]; omega
    · simp only [List.length_cons]; omega
theorem lines_app : ∀ (a b : List Int), (a.getLast? = some 13 → b.head? ≠ some 10) → linesN (a ++ b) = linesN a ++ linesN b
  | [], b, _ => rfl
  | [c], b, h => by
    rw [List.singleton_append, linesN, linesN]
    by_cases hc : c = 13
    · rw [if_pos hc, if_pos hc, if_neg (h (by rw [hc]; rfl))]; simp [linesN]
    · rw [if_neg hc, if_neg hc]; simp [linesN]
  | c :: d :: t, b, h => by
    have ih := lines_app (d :: t) b (fun e => h (by rw [List.getLast?_cons_cons]; exact e))
    have e : ∀ x : List Int, linesN (c :: d :: x) = if c = 13 then (if d = 10 then linesN (d :: x) else 10 :: linesN (d :: x)) else c :: linesN (d :: x) := by
      intro x
      rw [linesN]
      by_cases h1 : c = 13
      · rw [if_pos h1, if_pos h1]
        by_cases h2 : d = 10
        · rw [if_pos (by rw [h2]; rfl), if_pos h2]
        · rw [if_neg (by simpa using h2), if_neg h2]
      · rw [if_neg h1, if_neg h1]
    rw [List.cons_append, List.cons_append, e, e, ← List.cons_append, ih]
    by_cases h1 : c = 13
    · rw [if_pos h1, if_pos h1]
      by_cases h2 : d = 10
      · rw [if_pos h2, if_pos h2]
      · rw [if_neg h2, if_neg h2]; rfl
    · rw [if_neg h1, if_neg h1]; rfl
theorem lines_isBs {l : List Int} (h : isBs l) : isBs (linesN l) := by
  have key : ∀ l : List Int, ∀ x ∈ linesN l, x ∈ l ∨ x = 10 := by
    intro l
    induction l with
    | nil => intro x hx; simp [linesN] at hx
    | cons c t ih =>
      intro x hx
      rw [linesN] at hx
      split at hx
      · split at hx
        · exact (ih x hx).imp (List.mem_cons_of_mem _) id
        · rw [List.mem_cons] at hx
          rcases hx with rfl | hx
          · exact .inr rfl
          · exact (ih x hx).imp (List.mem_cons_of_mem _) id
      · rw [List.mem_cons] at hx
        rcases hx with rfl | hx
        · exact .inl (List.mem_cons_self ..)
        · exact (ih x hx).imp (List.mem_cons_of_mem _) id
  intro x hx
  rcases key l x hx with h1 | rfl
  · exact h x h1
  · omega
end Go.Proofs.Ytkdkoondchbekaa
