/-
  The encodings' tables in plain terms; which byte a scalar has. No program in sight.
-/
import Derived.Test.YtnpglglhhjjehaaSgP
namespace Go.Proofs.Ytnpglglhhjjehaa
/-- an encoding's table. -/
def tabL (e : Int) : List Int := if isEnc e then (List.range 256).map fun i => encOf e (i : Nat) else []
theorem tabL_yes {e : Int} (h : isEnc e = true) : tabL e = (List.range 256).map fun i => encOf e (i : Nat) := if_pos h
theorem tabL_no {e : Int} (h : isEnc e = false) : tabL e = [] := if_neg (by rw [h]; decide)
theorem tabL_len {e : Int} (h : isEnc e = true) : (tabL e).length = 256 := by rw [tabL_yes h, List.length_map, List.length_range]
theorem tab_snoc (e : Int) (k : Nat) : ((List.range k).map fun i => encOf e (i : Nat)) ++ [encOf e k] = (List.range (k + 1)).map fun i => encOf e (i : Nat) := by
  rw [List.range_succ, List.map_append]; rfl
def backGo : Int → List (Int × Int) → List Int → List (Int × Int)
  | _, L, [] => L
  | k, L, x :: r => backGo (k + 1) (iput L x k) r
theorem backGo_snoc (x : Int) : ∀ (k : Int) (L : List (Int × Int)) (ys : List Int), backGo k L (ys ++ [x]) = iput (backGo k L ys) x (k + ys.length)
  | k, L, [] => by simp [backGo]
  | k, L, y :: ys => by
    rw [List.cons_append, backGo, backGo, backGo_snoc x (k + 1)]
    congr 1
    simp only [List.length_cons]
    omega
def backL (e : Int) : List (Int × Int) := backGo 0 [] (tabL e)
/-- a scalar's byte in an encoding. -/
def findI : List Int → Int → Int → Option Int
  | [], _, _ => none
  | y :: r, k, x => if y == x then some k else findI r (k + 1) x
def byteOf (e x : Int) : Option Int := findI (tabL e) 0 x
theorem iget_put (L : List (Int × Int)) (k v k' : Int) : iget (iput L k v) k' = if k' = k then some v else iget L k' := by
  induction L with
  | nil =>
    rw [iput, iget, iget]
    by_cases h : k' = k
    · subst h; simp
    · rw [if_neg (by simp; omega), if_neg h]; rfl
  | cons p r ih =>
    rw [iput]
    by_cases h : p.1 = k
    · rw [if_pos (by simp [h]), iget, iget]
      by_cases h' : k' = k
      · rw [if_pos h', if_pos (by simp [h, h'])]
      · rw [if_neg h', if_neg (by simp; omega), if_neg (by simp; omega)]
    · rw [if_neg (by simpa using h), iget, iget, ih]
      by_cases h' : k' = k
      · rw [if_pos h', if_pos h', if_neg (by simp; omega)]
      · rw [if_neg h', if_neg h']
theorem findI_none {xs : List Int} {x : Int} (h : x ∉ xs) : ∀ k, findI xs k x = none := by
  induction xs with
  | nil => intro k; rfl
  | cons y r ih =>
    intro k
    rw [List.mem_cons, not_or] at h
    rw [findI, if_neg (by simp; omega)]
    exact ih h.2 _
theorem back_get (x : Int) : ∀ (xs : List Int) (k : Int) (L : List (Int × Int)), xs.Nodup → iget (backGo k L xs) x = (findI xs k x).or (iget L x)
  | [], k, L, _ => rfl
  | y :: r, k, L, h => by
    rw [List.nodup_cons] at h
    rw [backGo, back_get x r (k + 1) _ h.2, findI, iget_put]
    by_cases hy : y = x
    · subst hy
      rw [findI_none h.1]
      simp
    · have e1 : ¬ x = y := fun h => hy h.symm
      simp [hy, e1]
theorem tabL_nodup (e : Int) : (tabL e).Nodup := by
  cases he : isEnc e with
  | false => rw [tabL_no he]; exact List.nodup_nil
  | true =>
    have hc := of_decide_eq_true he
    rcases hc with rfl | rfl | rfl <;> decide +kernel
theorem backL_get (e x : Int) : iget (backL e) x = byteOf e x := by
  unfold backL byteOf
  rw [back_get x _ 0 [] (tabL_nodup e)]
  cases findI (tabL e) 0 x <;> rfl
theorem tabL_le (e : Int) : (tabL e).length ≤ 256 := by
  cases he : isEnc e with
  | false => rw [tabL_no he]; decide
  | true => rw [tabL_len he]; omega
end Go.Proofs.Ytnpglglhhjjehaa
