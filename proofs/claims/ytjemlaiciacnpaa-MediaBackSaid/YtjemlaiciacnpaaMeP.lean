/-
  Content-Types in plain terms: what bytes are in, lower case, the reader on lists of numbers. No program in sight.
-/
import Derived.Test.YtjemlaiciacnpaaU8Q
import Derived.Test.YtjemlaiciacnpaaLo
namespace Go.Proofs.Ytjemlaiciacnpaa
def signL : List Int := [33, 35, 36, 37, 38, 39, 42, 43, 45, 46, 94, 95, 96, 124, 126]
def isTok (c : Int) : Bool := decide (97 ≤ c ∧ c ≤ 122) || decide (65 ≤ c ∧ c ≤ 90) || decide (48 ≤ c ∧ c ≤ 57) || signL.contains c
def isBl (c : Int) : Bool := decide (c = 32 ∨ c = 9)
def isEsc (c : Int) : Bool := decide (c = 9 ∨ 32 ≤ c ∧ c ≤ 126)
def isQt (c : Int) : Bool := decide ((c = 9 ∨ 32 ≤ c ∧ c ≤ 126) ∧ c ≠ 34 ∧ c ≠ 92 ∨ 128 ≤ c)
/-- a quoted text behind its first quote: what is meant (behind what is gathered), and what stands behind it. -/
def quoA : List Int → List Int → Option (List Int × List Int)
  | _, [] => none
  | acc, [c] => if c = 34 then some (acc, []) else none
  | acc, c :: d :: r => if c = 34 then some (acc, d :: r) else if c = 92 then (if isEsc d then quoA (acc ++ [d]) r else none) else if isQt c then quoA (acc ++ [c]) (d :: r) else none
def valN (l : List Int) : Option (List Int × List Int) :=
  match l with
  | [] => none
  | c :: r => if c = 34 then quoA [] r else if isTok c then some ((c :: r).takeWhile isTok, (c :: r).dropWhile isTok) else none
/-- a parameter: its name and value, and what stands behind it. -/
def parN (l : List Int) : Option ((List Int × List Int) × List Int) :=
  match l.takeWhile isTok, l.dropWhile isTok with
  | [], _ => none
  | _, [] => none
  | a :: as, g :: t => if g ≠ 61 then none else (valN t).map fun vu => ((lowL (a :: as), vu.1), vu.2)
/-- parameters, behind those that are gathered. -/
def parA : Nat → List (List Int × List Int) → List Int → Option (List (List Int × List Int))
  | 0, _, _ => none
  | _ + 1, acc, [] => some acc
  | f + 1, acc, c :: r =>
    if c ≠ 59 then none else
      match r.dropWhile isBl with
      | [] => some acc
      | d :: q =>
        if d = 59 then parA f acc (d :: q) else
          match parN (d :: q) with
          | none => none
          | some (p, u) => parA f (acc ++ [p]) (u.dropWhile isBl)
def parseN (l : List Int) : Option (List Int × List (List Int × List Int)) :=
  let l1 := l.dropWhile isBl
  match l1.takeWhile isTok, l1.dropWhile isTok with
  | [], _ => none
  | _, [] => none
  | a :: as, c :: r =>
    if c ≠ 47 then none else
      match r.takeWhile isTok with
      | [] => none
      | b :: bs => (parA (l.length + 1) [] ((r.dropWhile isTok).dropWhile isBl)).map fun ps => (lowL ((a :: as) ++ 47 :: (b :: bs)), ps)
end Go.Proofs.Ytjemlaiciacnpaa
