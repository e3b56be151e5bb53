/-
  Layer 16 in plain terms: an event's fields; events that are whole.
-/
import Derived.Test.YteefopeclfojiaaEvO
import Derived.Test.YteefopeclfojiaaIm
namespace Go.Proofs.Yteefopeclfojiaa
open Go.RowKit
def emB (s : ByteArray) : Bool := s.toList.isEmpty
theorem emB_eq (s : ByteArray) : (s.toList == []) = emB s := by unfold emB; cases s.toList <;> rfl
theorem emB_ne (s : ByteArray) : (s.toList != []) = !emB s := by unfold emB; cases s.toList <;> rfl
/-- is a name among these? -/
def inL (k : ByteArray × ByteArray) (l : List (ByteArray × ByteArray)) : Bool := l.any fun n => decide (k = n)
/-- attributes' names: none twice, none without a local part. -/
def attGo : List (ByteArray × ByteArray) → List AtT → Bool
  | _, [] => true
  | seen, a :: r => !inL a.1 seen && !emB a.1.2 && attGo (seen ++ [a.1]) r
/-- an event's fields are those of its kind. -/
def fldB (e : Evt) : Bool :=
  if e.k = 2 then emB e.n.1 && emB e.n.2 && e.at_.isEmpty && !emB e.tx
  else if e.k = 1 then !emB e.n.2 && e.at_.isEmpty && emB e.tx
  else if e.k = 0 then attGo [] e.at_ && !emB e.n.2 && emB e.tx
  else false
/-- events that are gone through: the places of the elements that are open, the ends, how deep it was. -/
structure Gr where
  op : List Int
  ends : List (Int × Value)
  deep : Nat
/-- one event more, whose fields are right: its kind, its name. -/
def gbody (es : List Evt) (i : Nat) (k : Int) (nm : ByteArray × ByteArray) (g : Gr) : Option Gr :=
  if g.op = [] ∧ (0 < i ∨ k ≠ 0) then none
  else if k = 0 then some ⟨g.op ++ [(i : Int)], g.ends, max g.deep (g.op.length + 1)⟩
  else if k = 2 then (if (es[i - 1]?).map Evt.k = some 2 then none else some g)
  else match g.op.getLast? with
    | none => none
    | some t => if (es[t.toNat]?).map Evt.n = some nm then some ⟨g.op.dropLast, aPut g.ends t (.int .i64 i), g.deep⟩ else none
/-- one event more. -/
def gstep (es : List Evt) (i : Nat) (x : Evt) (g : Gr) : Option Gr := if fldB x = false then none else gbody es i x.k x.n g
def grun (es : List Evt) : Nat → List Evt → Gr → Option Gr
  | _, [], g => some g
  | i, x :: r, g => (gstep es i x g).bind (grun es (i + 1) r)
def gfin (es : List Evt) (g : Gr) : Option Gr := if es = [] ∨ g.op ≠ [] then none else some g
/-- events that are whole: their ends, how deep they are. -/
def growP (es : List Evt) : Option Gr := (grun es 0 es ⟨[], [], 0⟩).bind (gfin es)
end Go.Proofs.Yteefopeclfojiaa
