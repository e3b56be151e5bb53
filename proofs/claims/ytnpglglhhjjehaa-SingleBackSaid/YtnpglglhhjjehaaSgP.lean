/-
  The three encodings in plain terms. No program in sight.
-/
import Derived.Test.YtnpglglhhjjehaaU8P
namespace Go.Proofs.Ytnpglglhhjjehaa
def iget : List (Int × Int) → Int → Option Int
  | [], _ => none
  | p :: r, k => if p.1 == k then some p.2 else iget r k
def iput : List (Int × Int) → Int → Int → List (Int × Int)
  | [], k, v => [(k, v)]
  | p :: r, k, v => if p.1 == k then (p.1, v) :: r else p :: iput r k v
def oddGo : Int → List (Int × Int) → List Int → List (Int × Int)
  | _, L, [] => L
  | k, L, x :: r => oddGo (k + 1) (iput L k x) r
theorem oddGo_snoc (x : Int) : ∀ (k : Int) (L : List (Int × Int)) (ys : List Int), oddGo k L (ys ++ [x]) = iput (oddGo k L ys) (k + ys.length) x
  | k, L, [] => by simp [oddGo]
  | k, L, y :: ys => by
    rw [List.cons_append, oddGo, oddGo, oddGo_snoc x (k + 1)]
    congr 1
    simp only [List.length_cons]
    omega
def winX : List Int := [8364, 129, 8218, 402, 8222, 8230, 8224, 8225, 710, 8240, 352, 8249, 338, 141, 381, 143, 144, 8216, 8217, 8220, 8221, 8226, 8211, 8212, 732, 8482, 353, 8250, 339, 157, 382, 376]
def winL : List (Int × Int) := oddGo 128 [] winX
def fiveL : List (Int × Int) := [(240, 8470), (253, 167)]
def nineL : List (Int × Int) := [(164, 8364), (166, 352), (168, 353), (180, 381), (184, 382), (188, 338), (189, 339), (190, 376)]
def plainOf (L : List (Int × Int)) (b : Int) : Int := (iget L b).getD b
def cyrOf (b : Int) : Int := if b < 161 ∨ b = 173 ∨ (iget fiveL b).getD 0 ≠ 0 then plainOf fiveL b else b - 160 + 1024
/-- a byte's scalar in an encoding (3: Win1252, 4: Iso5, 5: Iso15). -/
def encOf (e : Int) (b : Int) : Int := if e = 3 then plainOf winL b else if e = 4 then cyrOf b else plainOf nineL b
def isEnc (e : Int) : Bool := decide (e = 3 ∨ e = 4 ∨ e = 5)
end Go.Proofs.Ytnpglglhhjjehaa
