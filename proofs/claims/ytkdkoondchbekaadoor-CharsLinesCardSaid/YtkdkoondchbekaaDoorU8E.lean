/-
  The walks of utf8: pieces (an iterator) and its contract.
-/
import Derived.RangeFuncNested
import Derived.RangeFuncBound
import Derived.RangeFuncCalls
import Derived.RangeFuncLeaves
import Derived.RangeFuncBox
import Derived.Shelf.Abstract
import Derived.Shelf.RegionOpen
import Derived.WalkKit
import Derived.OwnWalkIn
import Derived.TacticsInMore
import Derived.LoopNIn
import Derived.LoopIn
import Derived.Test.YtkdkoondchbekaaDoorU8D
namespace Go.Proofs.YtkdkoondchbekaaDoor
open Go.RowKit Go.Shelf
attribute [local go_sem] Oper.semAt_some
/-- where each piece begins, and its scalar. -/
def posP : Nat → List (Int × Nat) → List (Nat × Int)
  | _, [] => []
  | a, p :: r => (a, p.1) :: posP (a + p.2) r
theorem posP_snoc (p : Int × Nat) : ∀ (a : Nat) (l : List (Int × Nat)), posP a (l ++ [p]) = posP a l ++ [(a + (l.map (·.2)).sum, p.1)]
  | a, [] => by simp [posP]
  | a, q :: r => by rw [List.cons_append, posP, posP, posP_snoc p (a + q.2) r]; simp [Nat.add_assoc]
theorem posP_append : ∀ (a : Nat) (l m : List (Int × Nat)), ∃ m', posP a (l ++ m) = posP a l ++ m'
  | a, [], m => ⟨posP a m, rfl⟩
  | a, q :: r, m => by
    obtain ⟨m', h⟩ := posP_append (a + q.2) r m
    exact ⟨m', by rw [List.cons_append, posP, posP, h]; rfl⟩
theorem posP_length : ∀ (a : Nat) (l : List (Int × Nat)), (posP a l).length = l.length
  | _, [] => rfl
  | a, q :: r => by rw [posP, List.length_cons, List.length_cons, posP_length]
/-- what a text's iterator hands out. -/
def els (s : ByteArray) : List (Nat × Int) := posP 0 (pieces (nums s))
/-- what a round that goes on keeps: the text's box. -/
def KeepsBox (B : Nat) (W W' : World) : Prop := W'.cell? ⟨B, 0, none⟩ = W.cell? ⟨B, 0, none⟩
theorem keepsBox_t {Bs : Nat} {A B C : World} (h : KeepsBox Bs A B) (k : KeepsBox Bs B C) : KeepsBox Bs A C := Eq.trans k h
theorem keepsBox_b {Bs : Nat} {w : World} (hB : Bs < w.heap.size) (W : World) (l : Nat) (_o o' : Obj) (hl : w.heap.size ≤ l) (hW : W.heap[l]? = some _o) (_ : _o.isCells = false) (_ : _o.isWalk = false) : KeepsBox Bs W (W.putObj l o') :=
  World.cell?_of_block ((grownBy_putObj' W l o').block Bs (by have := (Array.getElem?_eq_some_iff.1 hW).1; omega) (by simp; omega))
theorem keepsOthers_of_below {W W' : World} (h : Below W.heap.size W W') : KeepsOthers W W' := ⟨h.size, fun k _ hk _ => (h.block k (Array.getElem?_eq_some_iff.1 hk).1).trans hk⟩
theorem boxed_ownE {β γ : Type} (B : Nat) (t : TypeId) (f : γ → Value) (G : β → γ → Prop) : Own (fun s W => ∃ k, Boxed W B t (f k) ∧ G s k) := by
  rintro s X Y row ⟨k, hk, hG⟩ hg hrow
  exact ⟨k, boxed_own B t (fun _ : β => f k) s X Y row hk hg hrow, hG⟩
end Go.Proofs.YtkdkoondchbekaaDoor
