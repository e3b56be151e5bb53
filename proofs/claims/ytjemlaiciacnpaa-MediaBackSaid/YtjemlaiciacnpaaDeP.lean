/-
  Layer 7 in plain terms: marks, shapes, a declaration's parts.
-/
import Derived.Test.YtjemlaiciacnpaaU8Q
namespace Go.Proofs.Ytjemlaiciacnpaa
/-- white space. -/
def whN (c : Int) : Bool := c == 32 || c == 9 || c == 10 || c == 13
/-- a small letter. -/
def smN (c : Int) : Bool := decide (97 ≤ c ∧ c ≤ 122)
/-- where a byte first stands. -/
def posN (q : Int) : List Int → Option Nat
  | [] => none
  | c :: t => if c = q then some 0 else (posN q t).map (· + 1)
theorem posN_lt (q : Int) : ∀ (l : List Int) (n : Nat), posN q l = some n → n < l.length
  | [], n, h => by cases h
  | c :: t, n, h => by
    rw [posN] at h
    split at h
    · cases h; simp
    · cases e : posN q t with
      | none => rw [e] at h; cases h
      | some m =>
        rw [e] at h
        cases h
        have := posN_lt q t m e
        simp only [List.length_cons]; omega
/-- a value between quotes, and what is behind. -/
def valD : List Int → Option (List Int × List Int)
  | [] => none
  | q :: v => if q = 34 ∨ q = 39 then (posN q v).map fun i => (v.take i, v.drop (i + 1)) else none
/-- a part at the front: the name, the value, what is behind. -/
def partD (s : List Int) : Option ((List Int × List Int) × List Int) :=
  if s.takeWhile whN = [] then none
  else if (s.dropWhile whN).takeWhile smN = [] then none
  else match ((s.dropWhile whN).dropWhile smN).dropWhile whN with
    | 61 :: t => (valD (t.dropWhile whN)).map fun p => (((s.dropWhile whN).takeWhile smN, p.1), p.2)
    | _ => none
theorem valD_lt {l : List Int} {p : List Int × List Int} (h : valD l = some p) : p.2.length < l.length := by
  cases l with
  | nil => cases h
  | cons q v =>
    rw [valD] at h
    split at h
    · cases e : posN q v with
      | none => rw [e] at h; cases h
      | some i =>
        rw [e] at h
        cases h
        have := posN_lt q v i e
        simp only [List.length_drop, List.length_cons]; omega
    · cases h
theorem drop_len (P : Int → Bool) (l : List Int) : (l.dropWhile P).length ≤ l.length := (List.dropWhile_suffix P).length_le
theorem partD_lt {s : List Int} {p : (List Int × List Int) × List Int} (h : partD s = some p) : p.2.length < s.length := by
  unfold partD at h
  split at h
  · cases h
  · split at h
    · cases h
    · have h1 := drop_len whN s
      have h2 := drop_len smN (s.dropWhile whN)
      have h3 := drop_len whN ((s.dropWhile whN).dropWhile smN)
      split at h
      · rename_i t e
        rw [e] at h3
        simp only [List.length_cons] at h3
        cases e2 : valD (t.dropWhile whN) with
        | none => rw [e2] at h; cases h
        | some v =>
          rw [e2] at h
          cases h
          have h4 := valD_lt e2
          have h5 := drop_len whN t
          show v.2.length < s.length
          omega
      · cases h
/-- all parts, by fuel. -/
def parD : Nat → List Int → List (List Int × List Int)
  | 0, _ => []
  | f + 1, s => match partD s with
    | none => []
    | some p => p.1 :: parD f p.2
theorem parD_fuel : ∀ (f g : Nat) (s : List Int), s.length < f → s.length < g → parD f s = parD g s
  | 0, _, _, h, _ => absurd h (by omega)
  | _, 0, _, _, h => absurd h (by omega)
  | f + 1, g + 1, s, hf, hg => by
    rw [parD, parD]
    cases e : partD s with
    | none => rfl
    | some p =>
      have := partD_lt e
      show p.1 :: parD f p.2 = p.1 :: parD g p.2
      rw [parD_fuel f g p.2 (by omega) (by omega)]
end Go.Proofs.Ytjemlaiciacnpaa
