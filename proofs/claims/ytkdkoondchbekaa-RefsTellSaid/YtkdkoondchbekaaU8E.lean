/-
  The walks of utf8: pieces (an iterator) and its contract.
-/
import Derived.RangeFuncNested
import Derived.RangeFuncBound
import Derived.RangeFuncCalls
import Derived.RangeFuncLeaves
import Derived.RangeFuncBox
import Derived.Shelf.Abstract
import Derived.Shelf.RegionOpen
import Derived.WalkKit
import Derived.OwnWalkIn
import Derived.TacticsInMore
import Derived.LoopNIn
import Derived.LoopIn
import Derived.Test.YtkdkoondchbekaaU8D
namespace Go.Proofs.Ytkdkoondchbekaa
open Go.RowKit Go.Shelf
attribute [local go_sem] Oper.semAt_some
/-- where each piece begins, and its scalar. -/
def posP : Nat → List (Int × Nat) → List (Nat × Int)
  | _, [] => []
  | a, p :: r => (a, p.1) :: posP (a + p.2) r
theorem posP_snoc (p : Int × Nat) : ∀ (a : Nat) (l : List (Int × Nat)), posP a (l ++ [p]) = posP a l ++ [(a + (l.map (·.2)).sum, p.1)]
  | a, [] => by simp [posP]
  | a, q :: r => by rw [List.cons_append, posP, posP, posP_snoc p (a + q.2) r]; simp [Nat.add_assoc]
theorem posP_append : ∀ (a : Nat) (l m : List (Int × Nat)), ∃ m', posP a (l ++ m) = posP a l ++ m'
  | a, [], m => ⟨posP a m, rfl⟩
  | a, q :: r, m => by
    obtain ⟨m', h⟩ := posP_append (a + q.2) r m
    exact ⟨m', by rw [List.cons_append, posP, posP, h]; rfl⟩
theorem posP_length : ∀ (a : Nat) (l : List (Int × Nat)), (posP a l).length = l.length
  | _, [] => rfl
  | a, q :: r => by rw [posP, List.length_cons, List.length_cons, posP_length]
/-- what a text's iterator hands out. -/
def els (s : ByteArray) : List (Nat × Int) := posP 0 (pieces (nums s))
set_option maxHeartbeats 1000000 in
theorem utf8_pieces_in (F : Fence) (n : Nat) (h27 : F.fn 50) (hro : F.round = none) (s : ByteArray) (w : World) :
    CallsIn F n Try.prog 50 #[.string s] w fun e w' => e = .returned (.func (.func 62) #[] #[.pointer (some ⟨w.heap.size, 0, none⟩)]) ∧ w' = w.alloc (.cells #[.string s] 9) := by
  refine callsIn_of_wp Try.func50 rfl h27 ?_ hro
  simp only [Try.ntmps50, List.size_toArray, List.length_cons, List.length_nil, Nat.reduceAdd, Nat.reduceSub, Array.replicate_succ, Array.replicate_zero, List.push_toArray, List.append_toArray, List.nil_append, List.cons_append]
  gi_wp2
  go_ret
  exact ⟨rfl, rfl⟩
set_option maxRecDepth 100000 in
set_option maxHeartbeats 2000000 in
theorem utf8_pieces1_in (n : Nat) (hn : 1 ≤ n) (l Bs : Nat) (s : ByteArray) (hs : s.size ≤ 1099511627776) (J Jx : List (Nat × Int) → World → Prop)
    (hY : ∀ pre x W, J pre W → pre.length < s.size → YieldAt Fence.wide (n - 1) Try.prog l #[.int .i64 (x.1 : Nat), .int .i64 x.2] W fun e W' =>
      (e = .returned (.bool true) ∧ J (pre ++ [x]) W' ∧ W'.cell? ⟨Bs, 0, none⟩ = W.cell? ⟨Bs, 0, none⟩) ∨ (e = .returned (.bool false) ∧ Jx (pre ++ [x]) W'))
    (W : World) (hBs : W.cell? ⟨Bs, 0, none⟩ = some (.string s)) (h0 : J [] W) :
    CallsIn Fence.wide n Try.prog 62 #[.func (.yield l) #[] #[], .pointer (some ⟨Bs, 0, none⟩)] W fun e W' => (∃ v, e = .returned v) ∧
      ((∃ ys, ys = els s ∧ J ys W') ∨ (∃ pre, pre <+: els s ∧ Jx pre W')) := by
  refine callsIn_of_wp Try.func62 rfl trivial ?_ rfl
  simp only [Try.ntmps62, List.size_toArray, List.length_cons, List.length_nil, Nat.reduceAdd, Nat.reduceSub, Array.replicate_succ, Array.replicate_zero, List.push_toArray, List.append_toArray, List.nil_append, List.cons_append]
  gi_wp2
  gi_loopw [3] (fun a wr => ∃ (k : Nat) (done : List (Int × Nat)), a = .int .i64 k ∧ k ≤ s.size ∧ done.length ≤ k ∧ pieces (nums s) = done ++ pieces ((nums s).drop k) ∧ (done.map (·.2)).sum = k ∧ J (posP 0 done) wr ∧ wr.cell? ⟨Bs, 0, none⟩ = some (.string s))
    (fun a _ => s.size - (intOf a).toNat)
  case atStart => exact ⟨0, [], rfl, by omega, by simp, by simp, rfl, h0, hBs⟩
  case round =>
    obtain ⟨k, done, rfl, hk, hdk, hq, hsum, hJ, hc⟩ := hrel
    by_cases hlt : k < s.size
    · have hpd := pieces_drop hlt
      have hpl := piece_drop_le hlt
      obtain ⟨p, hp⟩ : ∃ p, piece ((nums s).drop k) = p := ⟨_, rfl⟩
      rw [hp] at hpd hpl
      have hel : els s = posP 0 done ++ (k, p.1) :: posP (k + p.2) (pieces ((nums s).drop (k + p.2))) := by
        unfold els
        rw [hq, hpd, show p :: pieces ((nums s).drop (k + p.2)) = [p] ++ pieces ((nums s).drop (k + p.2)) from rfl]
        have : ∀ (a : Nat) (l m : List (Int × Nat)), posP a (l ++ m) = posP a l ++ posP (a + (l.map (·.2)).sum) m := by
          intro a l
          induction l generalizing a with
          | nil => intro m; simp [posP]
          | cons q r ih => intro m; rw [List.cons_append, posP, posP, ih]; simp [Nat.add_assoc]
        rw [this, hsum]
        simp [posP]
      obtain ⟨fn, tmps, assign, body, hy, hR⟩ := hY (posP 0 done) (k, p.1) wr hJ (by rw [posP_length]; omega)
      dsimp only at hy
      have HP := Lib.hid hp
      have HE := Lib.hid hel
      have HQ := Lib.hid hq
      have HPD := Lib.hid hpd
      clear hp hel hq hpd
      gi_wp2_with (refine ⟨trivial, ?_⟩; gi_at_call 63; refine (callsIn_wide.2 (utf8_piece s k _ hlt (by omega))).mono ?_; rw [HP.out]; rintro e w' ⟨rfl, rfl⟩)
      refine hR.mono ?_
      rintro e W3 (⟨rfl, hJ3, hk3⟩ | ⟨rfl, hJx3⟩)
      · have hc3 := hk3.trans hc
        clear hk3
        gi_wp2
        go_roundw
        case rel => exact ⟨k + p.2, done ++ [p], by go_num, by omega, by simp; omega, by rw [HQ.out, HPD.out]; simp, by simp [hsum], by rw [posP_snoc, hsum, Nat.zero_add]; exact hJ3, hc3⟩
        case measure => simp [intOf]; omega
      · gi_wp2
        refine bodyPost_ret (results_none rfl _ _ _) rfl ?_
        exact ⟨⟨_, rfl⟩, .inr ⟨_, ⟨_, by rw [HE.out, List.append_assoc]; rfl⟩, hJx3⟩⟩
    · have hend := pieces_drop_end (s := s) (k := k) (by omega)
      rw [hend, List.append_nil] at hq
      have HE := Lib.hid (show els s = posP 0 done by unfold els; rw [hq])
      clear hq hend
      gi_wp2
      go_end0
      exact ⟨⟨_, rfl⟩, .inl ⟨_, HE.out.symm, hJ⟩⟩
/-- what a round that goes on keeps: the text's box. -/
def KeepsBox (B : Nat) (W W' : World) : Prop := W'.cell? ⟨B, 0, none⟩ = W.cell? ⟨B, 0, none⟩
theorem keepsBox_t {Bs : Nat} {A B C : World} (h : KeepsBox Bs A B) (k : KeepsBox Bs B C) : KeepsBox Bs A C := Eq.trans k h
theorem keepsBox_b {Bs : Nat} {w : World} (hB : Bs < w.heap.size) (W : World) (l : Nat) (_o o' : Obj) (hl : w.heap.size ≤ l) (hW : W.heap[l]? = some _o) (_ : _o.isCells = false) (_ : _o.isWalk = false) : KeepsBox Bs W (W.putObj l o') :=
  World.cell?_of_block ((grownBy_putObj' W l o').block Bs (by have := (Array.getElem?_eq_some_iff.1 hW).1; omega) (by simp; omega))
theorem utf8_pieces_stops (n : Nat) (hn : 1 ≤ n) (Bs : Nat) (s : ByteArray) (hs : s.size ≤ 1099511627776) (w : World) (hBs : Bs < w.heap.size) (hc : w.cell? ⟨Bs, 0, none⟩ = some (.string s)) :
    SeqStopsK Fence.wide n Try.prog 62 #[.pointer (some ⟨Bs, 0, none⟩)] (fun x : Nat × Int => #[Value.int .i64 (x.1 : Nat), Value.int .i64 x.2]) (KeepsBox Bs) (fun ys => ys = els s) (fun pre => pre <+: els s) s.size w := fun l J Jx W hW _ _ hY h0 =>
  utf8_pieces1_in n hn l Bs s hs J Jx hY W ((hW.cell (p := ⟨Bs, 0, none⟩) hBs).trans hc) h0
theorem keepsOthers_of_below {W W' : World} (h : Below W.heap.size W W') : KeepsOthers W W' := ⟨h.size, fun k _ hk _ => (h.block k (Array.getElem?_eq_some_iff.1 hk).1).trans hk⟩
theorem boxed_ownE {β γ : Type} (B : Nat) (t : TypeId) (f : γ → Value) (G : β → γ → Prop) : Own (fun s W => ∃ k, Boxed W B t (f k) ∧ G s k) := by
  rintro s X Y row ⟨k, hk, hG⟩ hg hrow
  exact ⟨k, boxed_own B t (fun _ : β => f k) s X Y row hk hg hrow, hG⟩
end Go.Proofs.Ytkdkoondchbekaa
