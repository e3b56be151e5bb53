/-
  The plain reader of Content-Types, case by case. No program in sight.
-/
import Derived.Test.YtjemlaiciacnpaaMeQ
namespace Go.Proofs.Ytjemlaiciacnpaa
theorem parseN_no1 {l : List Int} (h : (l.dropWhile isBl).takeWhile isTok = []) : parseN l = none := by
  unfold parseN
  simp only
  rw [h]
theorem parseN_no2 {l : List Int} (h : (l.dropWhile isBl).dropWhile isTok = []) : parseN l = none := by
  unfold parseN
  simp only
  rw [h]
  cases (l.dropWhile isBl).takeWhile isTok <;> rfl
theorem parseN_no3 {l r : List Int} {c : Int} (h : (l.dropWhile isBl).dropWhile isTok = c :: r) (hc : c ≠ 47) : parseN l = none := by
  unfold parseN
  simp only
  rw [h]
  cases (l.dropWhile isBl).takeWhile isTok with
  | nil => rfl
  | cons a as => exact if_pos hc
theorem parseN_no4 {l r : List Int} (h : (l.dropWhile isBl).dropWhile isTok = 47 :: r) (hr : r.takeWhile isTok = []) : parseN l = none := by
  unfold parseN
  simp only
  rw [h]
  cases (l.dropWhile isBl).takeWhile isTok with
  | nil => rfl
  | cons a as =>
    simp only
    rw [if_neg (by decide), hr]
theorem parseN_eq {l r : List Int} (h0 : (l.dropWhile isBl).takeWhile isTok ≠ []) (h : (l.dropWhile isBl).dropWhile isTok = 47 :: r) (hr : r.takeWhile isTok ≠ []) :
    parseN l = (parW [] ((r.dropWhile isTok).dropWhile isBl)).map fun ps => (lowL ((l.dropWhile isBl).takeWhile isTok ++ 47 :: r.takeWhile isTok), ps) := by
  have hf : parA (l.length + 1) [] ((r.dropWhile isTok).dropWhile isBl) = parW [] ((r.dropWhile isTok).dropWhile isBl) := by
    have h1 := dropWhile_len isBl l
    have h2 := dropWhile_len isTok (l.dropWhile isBl)
    have h3 := dropWhile_len isTok r
    have h4 := dropWhile_len isBl (r.dropWhile isTok)
    rw [h] at h2
    simp only [List.length_cons] at h2
    exact parA_fuel _ _ _ _ (by omega) (by omega)
  unfold parseN
  simp only
  rw [h, ← hf]
  cases hl : (l.dropWhile isBl).takeWhile isTok with
  | nil => exact absurd hl h0
  | cons a as =>
    simp only
    rw [if_neg (by decide)]
    cases hq : r.takeWhile isTok with
    | nil => exact absurd hq hr
    | cons b bs => rfl
/-- the type of a Content-Type, between its two ends. -/
theorem nums_extract_two (s : ByteArray) (k : Nat) (hs : k ≤ s.size) (hD : ∃ r, (nums s).drop (k + spanN isTok s k) = 47 :: r) :
    nums (s.extract k (k + spanN isTok s k + 1 + spanN isTok s (k + spanN isTok s k + 1))) = ((nums s).drop k).takeWhile isTok ++ 47 :: ((nums s).drop (k + spanN isTok s k + 1)).takeWhile isTok := by
  obtain ⟨r, hD⟩ := hD
  have hE := spanN_le isTok s k hs
  have hlt : k + spanN isTok s k < s.size := by
    rcases Nat.lt_or_ge (k + spanN isTok s k) s.size with h | h
    · exact h
    · rw [nums_drop_end s _ h] at hD; cases hD
  have hr : r = (nums s).drop (k + spanN isTok s k + 1) := by
    rw [nums_drop s _ hlt] at hD
    injection hD with h1 h2
    exact h2.symm
  have h1 := (List.takeWhile_append_dropWhile (p := isTok) (l := (nums s).drop k)).symm
  rw [← drop_span isTok s k, hD, hr] at h1
  have h2 := (List.takeWhile_append_dropWhile (p := isTok) (l := (nums s).drop (k + spanN isTok s k + 1))).symm
  rw [nums_extractM]
  conv => lhs; rw [h1, h2]
  rw [← List.cons_append, ← List.append_assoc]
  refine List.take_left' ?_
  rw [List.length_append, List.length_cons]
  show spanN isTok s k + (spanN isTok s (k + spanN isTok s k + 1) + 1) = _
  omega
/-- the cells of parameters. -/
def parCells (ps : List (List Int × List Int)) : List Value := ps.flatMap fun p => [.string (strOfNums p.1), .string (strOfNums p.2)]
theorem parCells_snoc (ps : List (List Int × List Int)) (p : List Int × List Int) : parCells (ps ++ [p]) = parCells ps ++ [.string (strOfNums p.1), .string (strOfNums p.2)] := by
  unfold parCells
  rw [List.flatMap_append]
  rfl
def medR (R : Option (List Int × List (List Int × List Int))) : List Int × List (List Int × List Int) := R.getD ([], [])
end Go.Proofs.Ytjemlaiciacnpaa
