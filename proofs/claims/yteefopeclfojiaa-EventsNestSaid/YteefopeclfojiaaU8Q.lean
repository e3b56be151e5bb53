/-
  UTF-8 in plain terms: a text's pieces, its scalars, scalars as text, bytes told loosely. No program in sight.
-/
import Derived.Test.YteefopeclfojiaaU8P
namespace Go.Proofs.Yteefopeclfojiaa
/-- the pieces of bytes, by fuel. -/
def pcs : Nat → List Int → List (Int × Nat)
  | 0, _ => []
  | _ + 1, [] => []
  | f + 1, c :: t => piece (c :: t) :: pcs f ((c :: t).drop (piece (c :: t)).2)
def pieces (l : List Int) : List (Int × Nat) := pcs l.length l
theorem pcs_nil (f : Nat) : pcs f [] = [] := by cases f <;> rfl
theorem pcs_fuel : ∀ (f g : Nat) (l : List Int), l.length ≤ f → l.length ≤ g → pcs f l = pcs g l
  | 0, g, l, hf, _ => by
    obtain rfl : l = [] := List.eq_nil_of_length_eq_zero (by omega)
    rw [pcs_nil, pcs_nil]
  | f + 1, g, [], _, _ => by rw [pcs_nil, pcs_nil]
  | f + 1, 0, c :: t, _, hg => by simp at hg
  | f + 1, g + 1, c :: t, hf, hg => by
    rw [pcs, pcs]
    have hn := piece_n c t
    simp only [List.length_cons] at hf hg hn
    rw [pcs_fuel f g ((c :: t).drop (piece (c :: t)).2) (by rw [List.length_drop, List.length_cons]; omega) (by rw [List.length_drop, List.length_cons]; omega)]
theorem pieces_nil : pieces [] = [] := rfl
theorem pieces_cons (c : Int) (t : List Int) : pieces (c :: t) = piece (c :: t) :: pieces ((c :: t).drop (piece (c :: t)).2) := by
  unfold pieces
  rw [List.length_cons, pcs]
  have hn := piece_n c t
  simp only [List.length_cons] at hn
  rw [pcs_fuel t.length _ ((c :: t).drop (piece (c :: t)).2) (by rw [List.length_drop, List.length_cons]; omega) (Nat.le_refl _)]
theorem pieces_ne (l : List Int) (h : l ≠ []) : pieces l = piece l :: pieces (l.drop (piece l).2) := by
  cases l with
  | nil => exact absurd rfl h
  | cons c t => exact pieces_cons c t
def okP (p : Int × Nat) : Bool := decide (0 ≤ p.1)
def okAll (l : List Int) : Bool := (pieces l).all okP
/-- a text's scalars, if it is right. -/
def scalL (l : List Int) : List Int := if okAll l then (pieces l).map (·.1) else []
/-- what stands for a piece in text that is told loosely. -/
def mend (p : Int × Nat) : List Int := if p.1 < 0 then [239, 191, 189] else encN p.1
def looseN (l : List Int) : List Int := (pieces l).flatMap mend
/-- where the first wrong piece begins, counted from 'at'; -1: there is none. -/
def firstP : Nat → List (Int × Nat) → Int
  | _, [] => -1
  | a, p :: r => if p.1 < 0 then a else firstP (a + p.2) r
def firstN (l : List Int) : Int := firstP 0 (pieces l)
def scAll (xs : List Int) : Bool := xs.all isSc
def encAll (xs : List Int) : List Int := xs.flatMap encN
def textS (xs : List Int) : ByteArray := if scAll xs then strOfNums (encAll xs) else strOfNums []
theorem encN_len (r : Int) : (encN r).length ≤ 4 := by unfold encN; (repeat' split) <;> simp
theorem encAll_len (xs : List Int) : (encAll xs).length ≤ 4 * xs.length := by
  induction xs with
  | nil => simp [encAll]
  | cons x xs ih =>
    have := encN_len x
    simp only [encAll, List.flatMap_cons, List.length_append, List.length_cons] at *
    omega
theorem mend_len (p : Int × Nat) : (mend p).length ≤ 4 := by unfold mend; split; · simp
                                                             · exact encN_len _
theorem pieces_len : ∀ (f : Nat) (l : List Int), (pcs f l).length ≤ l.length
  | 0, l => by simp [pcs]
  | f + 1, [] => by simp [pcs]
  | f + 1, c :: t => by
    rw [pcs]
    have hn := piece_n c t
    have := pieces_len f ((c :: t).drop (piece (c :: t)).2)
    rw [List.length_drop] at this
    simp only [List.length_cons] at *
    omega
theorem flatMap_len {α : Type} (f : α → List Int) (n : Nat) (hf : ∀ a, (f a).length ≤ n) : ∀ l : List α, (l.flatMap f).length ≤ n * l.length
  | [] => by simp
  | a :: l => by
    have := flatMap_len f n hf l
    have := hf a
    rw [List.flatMap_cons, List.length_append, List.length_cons, Nat.mul_add]
    omega
theorem looseN_len (l : List Int) : (looseN l).length ≤ 4 * l.length := by
  have h1 := flatMap_len mend 4 mend_len (pieces l)
  have h2 := pieces_len l.length l
  unfold looseN pieces at *
  omega
theorem strOfNums_nums (s : ByteArray) : strOfNums (nums s) = s := by
  unfold strOfNums nums
  rw [List.map_map]
  have : (fun n : Int => UInt8.ofNat n.toNat) ∘ (fun c : UInt8 => (c.toNat : Int)) = id := by funext c; simp
  rw [this, List.map_id]
/-- numbers that are bytes. -/
def isBs (l : List Int) : Prop := ∀ x ∈ l, 0 ≤ x ∧ x < 256
theorem nums_strOfNums (l : List Int) (h : isBs l) : nums (strOfNums l) = l := by
  unfold nums
  rw [strOfNums_data, List.map_map]
  conv => rhs; rw [← List.map_id l]
  apply List.map_congr_left
  intro x hx
  have := h x hx
  show ((UInt8.ofNat x.toNat).toNat : Int) = x
  rw [UInt8.toNat_ofNat']
  omega
theorem nums_isBs (s : ByteArray) : isBs (nums s) := by
  intro x hx
  obtain ⟨c, _, rfl⟩ := List.mem_map.1 hx
  have := c.toNat_lt
  omega
end Go.Proofs.Yteefopeclfojiaa
