/-
  UTF-16 in plain terms: units, what bytes are decoded to, what scalars are encoded as. No program in sight.
-/
import Derived.Test.YtppabccedmdajaaU8N
namespace Go.Proofs.Ytppabccedmdajaa
def unitN (big : Bool) (x y : Int) : Int := if big then x * 256 + y else y * 256 + x
def isHi (u : Int) : Bool := decide (55296 ≤ u ∧ u ≤ 56319)
def isLo (u : Int) : Bool := decide (56320 ≤ u ∧ u ≤ 57343)
def pairN (u v : Int) : Int := 65536 + (u - 55296) * 1024 + (v - 56320)
/-- the first scalar of a row of two bytes or more: what, of how many bytes, and whether it is right. -/
def step16 (big : Bool) (x y : Int) (r : List Int) : Int × Nat × Bool :=
  if isHi (unitN big x y) then
    match r with
    | p :: q :: _ => if isLo (unitN big p q) then (pairN (unitN big x y) (unitN big p q), 4, true) else (65533, 2, false)
    | _ => (65533, 2, false)
  else if isLo (unitN big x y) then (65533, 2, false) else (unitN big x y, 2, true)
def dec16 (big : Bool) : Nat → Nat → List Int → List Int × List Int
  | 0, _, _ => ([], [])
  | _ + 1, _, [] => ([], [])
  | _ + 1, a, [_] => ([65533], [(a : Int)])
  | f + 1, a, x :: y :: r =>
    ((step16 big x y r).1 :: (dec16 big f (a + (step16 big x y r).2.1) ((x :: y :: r).drop (step16 big x y r).2.1)).1,
      if (step16 big x y r).2.2 then (dec16 big f (a + (step16 big x y r).2.1) ((x :: y :: r).drop (step16 big x y r).2.1)).2 else (a : Int) :: (dec16 big f (a + (step16 big x y r).2.1) ((x :: y :: r).drop (step16 big x y r).2.1)).2)
theorem step16_n (big : Bool) (x y : Int) (r : List Int) : ((step16 big x y r).2.1 = 2 ∨ (step16 big x y r).2.1 = 4 ∧ 2 ≤ r.length) := by
  unfold step16
  split
  · split
    · split
      · exact .inr ⟨rfl, by simp⟩
      · exact .inl rfl
    · exact .inl rfl
  · split <;> exact .inl rfl
theorem dec16_fuel (big : Bool) : ∀ (f g a : Nat) (l : List Int), l.length < f → l.length < g → dec16 big f a l = dec16 big g a l
  | 0, _, _, _, h, _ => by omega
  | _ + 1, 0, _, _, _, h => by omega
  | _ + 1, _ + 1, _, [], _, _ => rfl
  | _ + 1, _ + 1, _, [_], _, _ => rfl
  | f + 1, g + 1, a, x :: y :: r, hf, hg => by
    simp only [List.length_cons] at hf hg
    have hn := step16_n big x y r
    have hl : ((x :: y :: r).drop (step16 big x y r).2.1).length ≤ r.length := by
      rw [List.length_drop]
      simp only [List.length_cons]
      omega
    rw [dec16, dec16, dec16_fuel big f g _ _ (by omega) (by omega)]
/-- decoded, with fuel enough. -/
def dW (big : Bool) (a : Nat) (l : List Int) : List Int × List Int := dec16 big (l.length + 1) a l
theorem dW_nil (big : Bool) (a : Nat) : dW big a [] = ([], []) := rfl
theorem dW_one (big : Bool) (a : Nat) (x : Int) : dW big a [x] = ([65533], [(a : Int)]) := rfl
theorem dW_step (big : Bool) (a : Nat) (x y : Int) (r : List Int) {s : Int} {n : Nat} {ok : Bool} (h : step16 big x y r = (s, n, ok)) :
    dW big a (x :: y :: r) = (s :: (dW big (a + n) ((x :: y :: r).drop n)).1, if ok then (dW big (a + n) ((x :: y :: r).drop n)).2 else (a : Int) :: (dW big (a + n) ((x :: y :: r).drop n)).2) := by
  have hn := step16_n big x y r
  rw [h] at hn
  simp only at hn
  have hl : ((x :: y :: r).drop n).length ≤ r.length := by
    rw [List.length_drop]
    simp only [List.length_cons]
    omega
  unfold dW
  rw [dec16, h]
  simp only
  rw [dec16_fuel big (x :: y :: r).length (((x :: y :: r).drop n).length + 1) _ _ (by simp only [List.length_cons]; omega) (by omega)]
theorem unit_lo (big : Bool) {x y : Int} (hx : 0 ≤ x ∧ x < 256) (hy : 0 ≤ y ∧ y < 256) : 0 ≤ unitN big x y ∧ unitN big x y < 65536 := by
  unfold unitN
  split <;> omega
theorem step_sc (big : Bool) {x y : Int} {r : List Int} (hx : 0 ≤ x ∧ x < 256) (hy : 0 ≤ y ∧ y < 256) : isSc (step16 big x y r).1 = true := by
  have hu := unit_lo big hx hy
  unfold step16
  split
  · rename_i h1
    have h1' := of_decide_eq_true h1
    split
    · split
      · rename_i h2
        have h2' := of_decide_eq_true h2
        show isSc (pairN _ _) = true
        unfold pairN isSc
        exact decide_eq_true (by omega)
      · decide
    · decide
  · rename_i h1
    split
    · decide
    · rename_i h2
      have h1' : ¬ (55296 ≤ unitN big x y ∧ unitN big x y ≤ 56319) := fun e => h1 (decide_eq_true e)
      have h2' : ¬ (56320 ≤ unitN big x y ∧ unitN big x y ≤ 57343) := fun e => h2 (decide_eq_true e)
      unfold isSc
      exact decide_eq_true (by omega)
theorem dec_sc (big : Bool) : ∀ (f a : Nat) (l : List Int), isBs l → scAll (dec16 big f a l).1 = true
  | 0, _, _, _ => rfl
  | _ + 1, _, [], _ => rfl
  | _ + 1, _, [_], _ => by show (isSc 65533 && true) = true; decide
  | f + 1, a, x :: y :: r, h => by
    rw [dec16, scAll_cons, step_sc big (h x (List.mem_cons_self ..)) (h y (by simp)), dec_sc big f _ _ (fun z hz => h z (List.mem_of_mem_drop hz))]
    rfl
theorem dW_sc (big : Bool) (a : Nat) (l : List Int) (h : isBs l) : scAll (dW big a l).1 = true := dec_sc big _ a l h
/-- each two bytes turned about. -/
def turn : List Int → List Int
  | x :: y :: r => y :: x :: turn r
  | l => l
theorem turn_len : ∀ l : List Int, (turn l).length = l.length
  | [] => rfl
  | [_] => rfl
  | x :: y :: r => by simp only [turn, List.length_cons, turn_len r]
theorem unit_turn (big : Bool) (x y : Int) : unitN (!big) y x = unitN big x y := by cases big <;> rfl
theorem step_turn (big : Bool) (x y : Int) : ∀ r : List Int, step16 (!big) y x (turn r) = step16 big x y r
  | [] => by unfold step16; rw [unit_turn]; rfl
  | [p] => by unfold step16; rw [unit_turn]; rfl
  | p :: q :: r => by unfold step16; simp only [turn, unit_turn]
theorem dec_turn (big : Bool) : ∀ (f a : Nat) (l : List Int), l.length % 2 = 0 → dec16 (!big) f a (turn l) = dec16 big f a l
  | 0, _, _, _ => rfl
  | _ + 1, _, [], _ => rfl
  | _ + 1, _, [_], h => by simp at h
  | f + 1, a, x :: y :: r, h => by
    simp only [List.length_cons] at h
    have hd : (turn (x :: y :: r)).drop (step16 big x y r).2.1 = turn ((x :: y :: r).drop (step16 big x y r).2.1) := by
      rcases step16_n big x y r with h1 | ⟨h1, h2⟩
      · rw [h1]; rfl
      · rw [h1]
        match r, h2 with
        | p :: q :: r, _ => rfl
    have hl : ((x :: y :: r).drop (step16 big x y r).2.1).length % 2 = 0 := by
      rw [List.length_drop]
      simp only [List.length_cons]
      rcases step16_n big x y r with h1 | ⟨h1, h2⟩ <;> omega
    show dec16 (!big) (f + 1) a (y :: x :: turn r) = _
    rw [dec16, dec16, step_turn]
    have hd' : (y :: x :: turn r).drop (step16 big x y r).2.1 = turn ((x :: y :: r).drop (step16 big x y r).2.1) := hd
    rw [hd', dec_turn big f _ _ hl]
theorem dW_turn (big : Bool) (a : Nat) (l : List Int) (h : l.length % 2 = 0) : dW (!big) a (turn l) = dW big a l := by
  unfold dW
  rw [turn_len]
  exact dec_turn big _ a l h
def put16 (big : Bool) (u : Int) : List Int := if big then [u / 256, u % 256] else [u % 256, u / 256]
def encU (big : Bool) (n : Int) : List Int := if 65536 ≤ n then put16 big (55296 + (n - 65536) / 1024) ++ put16 big (56320 + (n - 65536) % 1024) else put16 big n
def enc16 (big : Bool) (xs : List Int) : List Int := xs.flatMap (encU big)
theorem enc16_append (big : Bool) (xs ys : List Int) : enc16 big (xs ++ ys) = enc16 big xs ++ enc16 big ys := by unfold enc16; rw [List.flatMap_append]
theorem enc16_cons (big : Bool) (x : Int) (xs : List Int) : enc16 big (x :: xs) = encU big x ++ enc16 big xs := rfl
theorem put16_unit (big : Bool) {u : Int} : ∃ x y, put16 big u = [x, y] ∧ unitN big x y = u ∧ (0 ≤ u → u < 65536 → (0 ≤ x ∧ x < 256) ∧ (0 ≤ y ∧ y < 256)) := by
  unfold put16 unitN
  cases big
  · exact ⟨u % 256, u / 256, rfl, by simp; omega, fun _ _ => by omega⟩
  · exact ⟨u / 256, u % 256, rfl, by simp; omega, fun _ _ => by omega⟩
theorem unit_put16 (big : Bool) {x y : Int} (hx : 0 ≤ x ∧ x < 256) (hy : 0 ≤ y ∧ y < 256) : put16 big (unitN big x y) = [x, y] := by
  unfold put16 unitN
  cases big
  · simp; omega
  · simp; omega
theorem put16_len (big : Bool) (u : Int) : (put16 big u).length = 2 := by unfold put16; split <;> rfl
theorem encU_len (big : Bool) (n : Int) : (encU big n).length = if 65536 ≤ n then 4 else 2 := by
  unfold encU
  split
  · rw [List.length_append, put16_len, put16_len]
  · exact put16_len big n
theorem enc16_bs (big : Bool) (xs : List Int) (h : scAll xs = true) : isBs (enc16 big xs) := by
  intro z hz
  obtain ⟨n, hn, hz⟩ := List.mem_flatMap.1 hz
  have hs := (isSc_iff n).1 (scAll_mem h hn)
  have key : ∀ u : Int, 0 ≤ u → u < 65536 → z ∈ put16 big u → 0 ≤ z ∧ z < 256 := by
    intro u h0 h1 hz
    unfold put16 at hz
    split at hz <;> simp at hz <;> rcases hz with rfl | rfl <;> omega
  unfold encU at hz
  split at hz
  · rcases List.mem_append.1 hz with hz | hz
    · exact key _ (by omega) (by omega) hz
    · exact key _ (by omega) (by omega) hz
  · exact key _ (by omega) (by omega) hz
/-- what was encoded is decoded as it was. -/
theorem dec_enc (big : Bool) : ∀ (xs : List Int) (a : Nat), scAll xs = true → dW big a (enc16 big xs) = (xs, [])
  | [], a, _ => rfl
  | n :: xs, a, h => by
    rw [scAll_cons, Bool.and_eq_true] at h
    have hs := (isSc_iff n).1 h.1
    rw [enc16_cons]
    unfold encU
    split
    · rename_i hb
      obtain ⟨x, y, e1, u1, -⟩ := put16_unit big (u := 55296 + (n - 65536) / 1024)
      obtain ⟨p, q, e2, u2, -⟩ := put16_unit big (u := 56320 + (n - 65536) % 1024)
      rw [e1, e2]
      have hst : step16 big x y ([p, q] ++ enc16 big xs) = (n, 4, true) := by
        show step16 big x y (p :: q :: enc16 big xs) = _
        unfold step16
        simp only
        rw [u1, u2, if_pos (by unfold isHi; exact decide_eq_true (by omega)), if_pos (by unfold isLo; exact decide_eq_true (by omega))]
        have : pairN (55296 + (n - 65536) / 1024) (56320 + (n - 65536) % 1024) = n := by unfold pairN; omega
        rw [this]
      show dW big a (x :: y :: ([p, q] ++ enc16 big xs)) = _
      rw [dW_step big a x y _ hst]
      show ((n :: (dW big (a + 4) (enc16 big xs)).1), _) = _
      have ih := dec_enc big xs (a + 4) h.2
      rw [show (x :: y :: ([p, q] ++ enc16 big xs)).drop 4 = enc16 big xs from rfl, ih]
      rfl
    · rename_i hb
      obtain ⟨x, y, e1, u1, -⟩ := put16_unit big (u := n)
      rw [e1]
      have hst : step16 big x y (enc16 big xs) = (n, 2, true) := by
        unfold step16
        rw [u1, if_neg (by unfold isHi; simp; omega), if_neg (by unfold isLo; simp; omega)]
      show dW big a (x :: y :: enc16 big xs) = _
      rw [dW_step big a x y _ hst, show (x :: y :: enc16 big xs).drop 2 = enc16 big xs from rfl, dec_enc big xs (a + 2) h.2]
      rfl
/-- right bytes are what their scalars are encoded as. -/
theorem enc_dec (big : Bool) : ∀ (f a : Nat) (l : List Int), l.length < f → isBs l → (dec16 big f a l).2 = [] → enc16 big (dec16 big f a l).1 = l
  | 0, _, _, h, _, _ => by omega
  | _ + 1, _, [], _, _, _ => rfl
  | _ + 1, _, [_], _, _, h => by cases h
  | f + 1, a, x :: y :: r, hf, hb, h => by
    simp only [List.length_cons] at hf
    have hx := hb x (List.mem_cons_self ..)
    have hy := hb y (by simp)
    have hn := step16_n big x y r
    rw [dec16] at h ⊢
    obtain ⟨s, n, ok, hst⟩ : ∃ s n ok, step16 big x y r = (s, n, ok) := ⟨_, _, _, rfl⟩
    rw [hst] at h hn ⊢
    simp only at h hn ⊢
    cases ok with
    | false => simp at h
    | true =>
      simp only [if_true] at h
      have hl : ((x :: y :: r).drop n).length ≤ r.length := by
        rw [List.length_drop]
        simp only [List.length_cons]
        omega
      have ih := enc_dec big f (a + n) ((x :: y :: r).drop n) (by omega) (fun z hz => hb z (List.mem_of_mem_drop hz)) h
      rw [enc16_cons, ih]
      unfold step16 at hst
      have hu := unit_lo big hx hy
      split at hst
      · rename_i h1
        have h1' := of_decide_eq_true h1
        split at hst
        · rename_i p q r' 
          split at hst
          · rename_i h2
            have h2' := of_decide_eq_true h2
            simp only [Prod.mk.injEq] at hst
            obtain ⟨rfl, rfl, -⟩ := hst
            have hp := hb p (by simp)
            have hq := hb q (by simp)
            have hv := unit_lo big hp hq
            unfold encU pairN
            rw [if_pos (by omega)]
            rw [show 55296 + (65536 + (unitN big x y - 55296) * 1024 + (unitN big p q - 56320) - 65536) / 1024 = unitN big x y by omega, show 56320 + (65536 + (unitN big x y - 55296) * 1024 + (unitN big p q - 56320) - 65536) % 1024 = unitN big p q by omega, unit_put16 big hx hy, unit_put16 big hp hq]
            rfl
          · simp at hst
        · simp at hst
      · split at hst
        · simp at hst
        · simp only [Prod.mk.injEq] at hst
          obtain ⟨rfl, rfl, -⟩ := hst
          unfold encU
          rw [if_neg (by omega), unit_put16 big hx hy]
          rfl
theorem enc_dW (big : Bool) (a : Nat) (l : List Int) (hb : isBs l) (h : (dW big a l).2 = []) : enc16 big (dW big a l).1 = l := enc_dec big _ a l (Nat.lt_succ_self _) hb h
/-- units: one, or two. -/
def unitsN (xs : List Int) : Nat := (xs.map fun n => if 65536 ≤ n then 2 else 1).sum
theorem enc16_len (big : Bool) (xs : List Int) : (enc16 big xs).length = 2 * unitsN xs := by
  induction xs with
  | nil => rfl
  | cons n xs ih =>
    rw [enc16_cons, List.length_append, ih, encU_len]
    unfold unitsN
    rw [List.map_cons, List.sum_cons]
    split <;> omega
theorem unitsN_append (xs ys : List Int) : unitsN (xs ++ ys) = unitsN xs + unitsN ys := by unfold unitsN; rw [List.map_append, List.sum_append]
theorem unitsN_lo (xs : List Int) : xs.length ≤ unitsN xs ∧ unitsN xs ≤ 2 * xs.length := by
  induction xs with
  | nil => exact ⟨Nat.le_refl _, Nat.le_refl _⟩
  | cons n xs ih =>
    unfold unitsN at ih ⊢
    rw [List.map_cons, List.sum_cons, List.length_cons]
    split <;> omega
end Go.Proofs.Ytppabccedmdajaa
