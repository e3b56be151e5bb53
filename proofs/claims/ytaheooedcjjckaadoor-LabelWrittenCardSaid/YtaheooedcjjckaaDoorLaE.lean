/-
  Layer 5: the walk of the iterator over all labels, and of Of.
-/
import Derived.Test.YtaheooedcjjckaaDoorLaD
import Derived.RangeFuncNested
import Derived.RangeFuncOwn
import Derived.RangeFuncBound
import Derived.RangeFuncCalls
import Derived.RangeFuncLeaves
import Derived.Shelf.Abstract
import Derived.Shelf.RegionOpen
import Derived.OwnWalkIn
import Derived.LoopIn
namespace Go.Proofs.YtaheooedcjjckaaDoor
open Go.RowKit
attribute [local go_sem] Oper.semAt_some
/-- whatever is cells lies as it lay. -/
def KeepsC (W W' : World) : Prop := ∀ (k : Nat) (c : Array Value) (t : TypeId) (m : Nat × Nat), W.heap[k]? = some (Obj.cells c t m) → W'.heap[k]? = some (Obj.cells c t m)
theorem KeepsC.trans {A B C : World} (h : KeepsC A B) (k : KeepsC B C) : KeepsC A C := fun i c t m hi => k i c t m (h i c t m hi)
theorem KeepsC.below {A B : World} (h : Below A.heap.size A B) : KeepsC A B := fun _ _ _ _ hk => (h.block _ (Array.getElem?_eq_some_iff.1 hk).1).trans hk
theorem KeepsC.putObj (W : World) (l : Nat) (o o' : Obj) (hW : W.heap[l]? = some o) (hc : o.isCells = false) : KeepsC W (W.putObj l o') := fun k c t m hk => by
  refine ((grownBy_putObj' W l o').block k (Array.getElem?_eq_some_iff.1 hk).1 (fun e => ?_)).trans hk
  injection e with e
  subst e
  rw [hk] at hW
  cases hW
  cases hc
theorem KeepsC.cell {W W' : World} (h : KeepsC W W') {b o : Nat} {v : Value} (hc : W.cell? ⟨b, o, none⟩ = some v) : W'.cell? ⟨b, o, none⟩ = some v := by
  simp only [World.cell?] at hc ⊢
  cases hb : W.heap[b]? with
  | none => rw [hb] at hc; simp at hc
  | some ob =>
    cases ob with
    | cells c t m => rw [h b c t m hb]; rw [hb] at hc; exact hc
    | _ => rw [hb] at hc; simp at hc
theorem KeepsC.tab {W W' : World} (h : KeepsC W W') (ht : TabAt W) : TabAt W' := by
  have hgn : Tryd.prog.globalNamed "strings.asciiSpace" = some 0 := by kernel_rfl
  unfold TabAt Lib.TabIs World.var? at ht ⊢
  rw [hgn] at ht ⊢
  simp only [Option.bind_some] at ht ⊢
  cases hb : W.heap[0]? with
  | none => rw [hb] at ht; cases ht
  | some ob =>
    cases ob with
    | cells c t m => rw [h _ c t m hb]; rw [hb] at ht; exact ht
    | _ => rw [hb] at ht; cases ht
theorem i8_succ (e : Nat) (h : e < 6) : IntKind.i8.wrap ((e : Int) + 1) = (e : Int) + 1 := by
  have h6 : e = 0 ∨ e = 1 ∨ e = 2 ∨ e = 3 ∨ e = 4 ∨ e = 5 := by omega
  rcases h6 with rfl | rfl | rfl | rfl | rfl | rfl <;> rfl
theorem grown_below5 {w w' : World} (hb : Below w.heap.size w w') (row : Option Nat) : w.grownBy w' row := ⟨hb.os, hb.tape, hb.output, hb.size, fun b hb' _ => hb.block b hb'⟩
set_option maxRecDepth 100000 in
set_option maxHeartbeats 4000000 in
theorem each_in (n : Nat) (hn : 1 ≤ n) (l : Nat) (J Jx : List (Int × ByteArray) → World → Prop) (B0 : Nat) (hab : AbidesFrom B0 J)
    (hY : ∀ pre x W, J pre W → (pre ++ [x]) <+: restP 0 → YieldAt Fence.wide (n - 1) Tryd.prog l #[.int .i8 x.1, .string x.2] W fun e W' =>
      (e = .returned (.bool true) ∧ J (pre ++ [x]) W' ∧ KeepsC W W') ∨ (e = .returned (.bool false) ∧ Jx (pre ++ [x]) W'))
    (W : World) (ht : TabAt W) (h0 : J [] W) :
    CallsIn Fence.wide n Tryd.prog 19 #[.func (.yield l) #[] #[]] W fun e W' => (∃ v, e = .returned v) ∧ (J (restP 0) W' ∨ (∃ pre, pre <+: restP 0 ∧ Jx pre W')) := by
  refine callsIn_of_wp Tryd.func19 rfl trivial ?_ rfl
  simp only [Tryd.ntmps19, List.size_toArray, List.length_cons, List.length_nil, Nat.reduceAdd, Nat.reduceSub, Array.replicate_succ, Array.replicate_zero, List.push_toArray, List.append_toArray, List.nil_append, List.cons_append]
  gi_wp2
  gi_loopw [5] (fun a wr => ∃ (e : Nat) (done : List (Int × ByteArray)), a = .int .i8 e ∧ e ≤ 6 ∧ J done wr ∧ TabAt wr ∧ Hid (restP 0 = done ++ restP e)) (fun a _ => 6 - (intOf a).toNat)
  case atStart => exact ⟨0, [], rfl, by omega, h0, ht, Lib.hid (by simp)⟩
  case round =>
    obtain ⟨e, done, rfl, he, hJ, htw, HQ⟩ := hrel
    by_cases hlt : e < 6
    · have hwr : IntKind.i8.wrap ((e : Int) + 1) = (e : Int) + 1 := i8_succ e hlt
      have HL := Lib.hid (label_All (e : Int) wr htw)
      have hll := labL_len (e : Int)
      have hR := restP_step e hlt
      obtain ⟨L, hL⟩ : ∃ L, labL (e : Int) = L := ⟨_, rfl⟩
      have hpr : pairP e = L.map fun l => ((e : Int), l) := by unfold pairP; rw [hL]
      rw [hL] at HL hll
      have HQ2 := Lib.hid (show restP 0 = done ++ (L.map fun l => ((e : Int), l)) ++ restP (e + 1) by rw [HQ.out, hR, hpr, List.append_assoc])
      clear hR hpr hL
      have hei : (e : Int) < 6 := by omega
      gi_wp2_with fail
      refine ⟨trivial, (callsIn_wide.2 HL.out).mono ?_⟩
      rintro e' w2 ⟨v, rfl, hr, hb⟩
      obtain ⟨a, cap, rfl, hc⟩ := hr.texts
      have j2 := hab _ _ _ none hJ (grown_below5 hb none) (fun r e => by cases e)
      have t2 := htw.below hb
      have HC := Lib.hid hc
      clear hr hc
      gi_wp2_with fail
      gi_loopw [11] (fun i wr2 => ∃ (j : Nat) (done2 : List (Int × ByteArray)), i = .int .i64 j ∧ j ≤ L.length ∧ J done2 wr2 ∧ TabAt wr2 ∧ KeepsC w2 wr2 ∧ Hid (restP 0 = done2 ++ ((L.map fun l => ((e : Int), l)).drop j ++ restP (e + 1)))) (fun i _ => L.length - (intOf i).toNat)
      case atStart => exact ⟨0, done, rfl, by omega, j2, t2, fun _ _ _ _ h => h, Lib.hid (by rw [HQ2.out, List.drop_zero, List.append_assoc])⟩
      case round =>
        obtain ⟨j, done2, rfl, hj, hJ2, ht2, hk2, HD⟩ := hrel
        by_cases hjl : j < L.length
        · obtain ⟨b, off, rfl, hbl, hcc⟩ := HC.out j hjl
          have hc2 := hk2.cell hcc
          obtain ⟨X, hX⟩ : ∃ X, L[j] = X := ⟨_, rfl⟩
          rw [hX] at hc2
          have hdr : (L.map fun l => ((e : Int), l)).drop j = ((e : Int), X) :: (L.map fun l => ((e : Int), l)).drop (j + 1) := by
            rw [List.drop_eq_getElem_cons (by rw [List.length_map]; exact hjl), List.getElem_map, hX]
          have HD2 := Lib.hid (show restP 0 = (done2 ++ [((e : Int), X)]) ++ ((L.map fun l => ((e : Int), l)).drop (j + 1) ++ restP (e + 1)) by rw [HD.out, hdr]; simp)
          have hYW := hY done2 ((e : Int), X) _ hJ2 ⟨_, HD2.out.symm⟩
          dsimp only at hYW
          obtain ⟨fn, tmps, assign, body, hy, hR2⟩ := hYW
          clear hX hcc hdr
          gi_wp2
          refine hR2.mono ?_
          rintro e' W3 (⟨rfl, hJ3, hk3⟩ | ⟨rfl, hJx3⟩)
          · gi_wp2
            go_roundw
            case rel => exact ⟨j + 1, _, by go_num, by omega, hJ3, hk3.tab ht2, hk2.trans hk3, HD2⟩
            case measure => simp [intOf]; omega
          · gi_wp2
            refine bodyPost_ret (results_none rfl _ _ _) rfl ?_
            exact ⟨⟨_, rfl⟩, .inr ⟨_, ⟨_, HD2.out.symm⟩, hJx3⟩⟩
        · have HE := Lib.hid (show restP 0 = done2 ++ restP (e + 1) by rw [HD.out, List.drop_eq_nil_of_le (by rw [List.length_map]; omega), List.nil_append])
          gi_wp2
          go_roundw
          case rel => exact ⟨e + 1, done2, by simp, by omega, hJ2, ht2, HE⟩
          case measure => simp [intOf]; omega
    · have HE := Lib.hid (show restP 0 = done by rw [HQ.out, show e = 6 by omega, restP_end, List.append_nil])
      gi_wp2
      go_end0
      exact ⟨⟨_, rfl⟩, .inl (by rw [HE.out]; exact hJ)⟩
end Go.Proofs.YtaheooedcjjckaaDoor
