/-
  UTF-8 in plain terms: a scalar's bytes, the piece that stands at the head of bytes. No program in sight.
-/
import Derived.Laws.BytesArg
namespace Go.Proofs.Yteefopeclfojiaa
def isSc (r : Int) : Bool := decide (0 ≤ r ∧ r ≤ 1114111 ∧ (r < 55296 ∨ 57343 < r))
def sLen (r : Int) : Int := if isSc r = false then 0 else if r < 128 then 1 else if r < 2048 then 2 else if r < 65536 then 3 else 4
def encN (r : Int) : List Int :=
  if isSc r = false then [] else if r < 128 then [r] else if r < 2048 then [192 + r / 64, 128 + r % 64]
  else if r < 65536 then [224 + r / 64 / 64, 128 + r / 64 % 64, 128 + r % 64]
  else [240 + r / 64 / 64 / 64, 128 + r / 64 / 64 % 64, 128 + r / 64 % 64, 128 + r % 64]
def encS (r : Int) : ByteArray := strOfNums (encN r)
def fMore (c : Int) : Int := if c < 128 then 0 else if c < 194 ∨ 244 < c then -1 else if c < 224 then 1 else if c < 240 then 2 else 3
def fBits (c : Int) : Int := if c < 128 then c else if c < 194 ∨ 244 < c then 0 else if c < 224 then c % 32 else if c < 240 then c % 16 else c % 8
def fFrom (c : Int) : Int := if c = 224 then 160 else if c = 240 then 144 else 128
def fTo (c : Int) : Int := if c = 237 then 159 else if c = 244 then 143 else 191
/-- what the bytes behind a first one make: so many are wanted; the scalar so far; the next one's bounds; how many bytes are read. -/
def conts : Nat → Int → Int → Int → Nat → List Int → Int × Nat
  | 0, r, _, _, n, _ => (r, n)
  | _ + 1, _, _, _, n, [] => (-1, n)
  | m + 1, r, fr, to, n, c :: t => if c < fr ∨ to < c then (-1, n) else conts m (r * 64 + c % 64) 128 191 (n + 1) t
/-- the piece at the head of bytes: its scalar (-1: it is wrong), how many bytes it has. -/
def piece : List Int → Int × Nat
  | [] => (-1, 1)
  | c :: t => if fMore c < 0 then (-1, 1) else conts (fMore c).toNat (fBits c) (fFrom c) (fTo c) 1 t
/-- a text's bytes as numbers. -/
def nums (s : ByteArray) : List Int := s.data.toList.map fun c => (c.toNat : Int)
theorem nums_length (s : ByteArray) : (nums s).length = s.size := by unfold nums; rw [List.length_map, Array.length_toList]; rfl
theorem nums_drop (s : ByteArray) (k : Nat) (h : k < s.size) : (nums s).drop k = (s[k].toNat : Int) :: (nums s).drop (k + 1) := by
  have h' : k < (nums s).length := by rw [nums_length]; exact h
  rw [List.drop_eq_getElem_cons h']
  simp [nums]
  rfl
theorem nums_drop_end (s : ByteArray) (k : Nat) (h : s.size ≤ k) : (nums s).drop k = [] := by
  rw [List.drop_eq_nil_iff, nums_length]; exact h
theorem fMore_lo (c : Int) : -1 ≤ fMore c ∧ fMore c ≤ 3 := by unfold fMore; split <;> (try split) <;> (try split) <;> (try split) <;> omega
theorem fBits_lo (c : Int) (h0 : 0 ≤ c) : 0 ≤ fBits c ∧ fBits c < 128 := by
  unfold fBits
  split
  · omega
  · split
    · omega
    · split
      · omega
      · split <;> omega
theorem fFrom_lo (c : Int) : 128 ≤ fFrom c ∧ fFrom c ≤ 160 := by unfold fFrom; split <;> (try split) <;> omega
theorem fTo_lo (c : Int) : 143 ≤ fTo c ∧ fTo c ≤ 191 := by unfold fTo; split <;> (try split) <;> omega
/-- a piece has at least one byte, and no more than there are. -/
theorem conts_n : ∀ (m : Nat) (r fr to : Int) (n : Nat) (l : List Int), n ≤ (conts m r fr to n l).2 ∧ (conts m r fr to n l).2 ≤ n + l.length ∧ (conts m r fr to n l).2 ≤ n + m
  | 0, r, fr, to, n, l => by simp [conts]
  | m + 1, r, fr, to, n, [] => by simp [conts]
  | m + 1, r, fr, to, n, c :: t => by
    rw [conts]
    split
    · simp
    · have := conts_n m (r * 64 + c % 64) 128 191 (n + 1) t
      simp only [List.length_cons]
      omega
theorem piece_n (c : Int) (t : List Int) : 1 ≤ (piece (c :: t)).2 ∧ (piece (c :: t)).2 ≤ (c :: t).length ∧ (piece (c :: t)).2 ≤ 4 := by
  rw [piece]
  split
  · simp
  · have := conts_n (fMore c).toNat (fBits c) (fFrom c) (fTo c) 1 t
    have h3 := fMore_lo c
    simp only [List.length_cons]
    omega
end Go.Proofs.Yteefopeclfojiaa
