/-
  Layer 6, in plain terms: how a Content-Type is written.
-/
import Derived.Test.YtjemlaiciacnpaaMeQ
namespace Go.Proofs.Ytjemlaiciacnpaa
open Go.RowKit
/-- a token, whole. -/
def tokB (l : List Int) : Bool := !l.isEmpty && l.all isTok
/-- a token in lower case. -/
def namB (l : List Int) : Bool := tokB l && decide (lowL l = l)
/-- the bytes of a value as they stand between quotes. -/
def escL : List Int → Option (List Int)
  | [] => some []
  | c :: r => if c = 34 ∨ c = 92 then (escL r).map fun q => 92 :: c :: q else if isQt c then (escL r).map fun q => c :: q else none
/-- a value as it is written. -/
def wriN (v : List Int) : Option (List Int) := if tokB v then some v else (escL v).map fun q => 34 :: (q ++ [34])
def typB (l : List Int) : Bool := match l.dropWhile isTok with
  | 47 :: b => !(l.takeWhile isTok).isEmpty && (tokB b && decide (lowL l = l))
  | _ => false
/-- the parameters as they are written. -/
def parT : List (List Int × List Int) → Option (List Int)
  | [] => some []
  | p :: r => if namB p.1 then (match wriN p.2 with | none => none | some x => (parT r).map fun q => 59 :: 32 :: (p.1 ++ 61 :: (x ++ q))) else none
def txtN (t : List Int) (ps : List (List Int × List Int)) : Option (List Int) := if typB t then (parT ps).map fun q => t ++ q else none
def numsP (qs : List (ByteArray × ByteArray)) : List (List Int × List Int) := qs.map fun q => (nums q.1, nums q.2)
theorem takeWhile_all {α : Type} (P : α → Bool) : ∀ l : List α, l.takeWhile P = l ↔ l.all P = true
  | [] => by simp
  | c :: r => by
    rw [List.takeWhile_cons, List.all_cons]
    cases h : P c
    · simp
    · simp [takeWhile_all P r]
theorem takeWhile_len_all {α : Type} (P : α → Bool) (l : List α) : (l.takeWhile P).length = l.length ↔ l.all P = true := by
  rw [← takeWhile_all]
  constructor
  · intro h
    have := List.takeWhile_prefix (p := P) (l := l)
    exact this.eq_of_length h
  · intro h; rw [h]
theorem dropWhile_nil {α : Type} (P : α → Bool) : ∀ l : List α, l.dropWhile P = [] ↔ l.all P = true
  | [] => by simp
  | c :: r => by
    rw [List.dropWhile_cons, List.all_cons]
    cases h : P c
    · simp
    · simp [dropWhile_nil P r]
theorem tokB_iff (l : List Int) : tokB l = true ↔ l ≠ [] ∧ l.all isTok = true := by
  unfold tokB
  cases l <;> simp
theorem tok_slash : isTok 47 = false := by decide
theorem low_app (a b : List Int) : lowL (a ++ b) = lowL a ++ lowL b := by unfold lowL; exact List.map_append
/-- a type that is cut at its first slash. -/
theorem typB_cut (a b : List Int) (ha : 47 ∉ a) : typB (a ++ 47 :: b) = (tokB a && (tokB b && decide (lowL (a ++ 47 :: b) = a ++ 47 :: b))) := by
  by_cases h : a.all isTok = true
  · have h1 : (a ++ 47 :: b).dropWhile isTok = 47 :: b := by
      rw [List.dropWhile_append]
      have : a.dropWhile isTok = [] := (dropWhile_nil isTok a).2 h
      rw [this]
      simp [tok_slash]
    have h2 : (a ++ 47 :: b).takeWhile isTok = a := by
      rw [List.takeWhile_append, (takeWhile_all isTok a).2 h]
      simp [tok_slash]
    unfold typB
    rw [h1, h2]
    unfold tokB
    rw [h]
    simp
  · have h0 : tokB a = false := by
      cases ht : tokB a with
      | false => rfl
      | true => exact absurd ((tokB_iff a).1 ht).2 h
    rw [h0, Bool.false_and]
    have hne : (a.takeWhile isTok).length ≠ a.length := fun e => h ((takeWhile_len_all isTok a).1 e)
    have h1 : (a ++ 47 :: b).dropWhile isTok = a.dropWhile isTok ++ 47 :: b := by
      rw [List.dropWhile_append]
      have : ¬ (a.dropWhile isTok).isEmpty = true := by
        rw [List.isEmpty_iff, dropWhile_nil]
        exact h
      rw [if_neg this]
    unfold typB
    rw [h1]
    cases hd : a.dropWhile isTok with
    | nil => exact absurd ((dropWhile_nil isTok a).1 hd) h
    | cons c r =>
      have hc : c ≠ 47 := fun e => ha (by
        have : c ∈ a.dropWhile isTok := by rw [hd]; exact List.mem_cons_self ..
        rw [← e]
        exact (List.dropWhile_suffix (p := isTok) (l := a)).subset this)
      show (match c :: (r ++ 47 :: b) with | 47 :: b => _ | _ => false) = false
      split
      · rename_i e; injection e with e1 e2; exact absurd e1 hc
      · rfl
theorem typB_none (l : List Int) (h : 47 ∉ l) : typB l = false := by
  unfold typB
  cases hd : l.dropWhile isTok with
  | nil => rfl
  | cons c r =>
    have hc : c ≠ 47 := fun e => h (by
      have : c ∈ l.dropWhile isTok := by rw [hd]; exact List.mem_cons_self ..
      rw [← e]
      exact (List.dropWhile_suffix (p := isTok) (l := l)).subset this)
    split
    · rename_i e; injection e with e1 e2; exact absurd e1 hc
    · rfl
end Go.Proofs.Ytjemlaiciacnpaa
