/-
  Layer 16: an element's children; the walk of the iterator over them.
-/
import Derived.Test.YteefopeclfojiaaEvF
import Derived.Test.YteefopeclfojiaaEvG
import Derived.Test.YteefopeclfojiaaRgP
import Derived.RangeFuncOwn
import Derived.RangeFuncBound
import Derived.RangeFuncCalls
import Derived.RangeFuncLeaves
import Derived.Shelf.Abstract
import Derived.Shelf.RegionOpen
import Derived.OwnWalkIn
import Derived.LoopIn
namespace Go.Proofs.Yteefopeclfojiaa
open Go.RowKit
attribute [local go_sem] Oper.semAt_some
/-- children from k on, ahead of e. -/
def kidF (E : Nat → Option Nat) (e : Nat) : Nat → Nat → List Nat
  | 0, _ => []
  | f + 1, k => if k < e then (match E k with
    | some j => k :: kidF E e f (j + 1)
    | none => kidF E e f (k + 1)) else []
/-- an element's children. -/
def kidsL (E : Nat → Option Nat) (i e : Nat) : List Nat := kidF E e e (i + 1)
/-- the place behind the children that came. -/
def fromK (E : Nat → Option Nat) (k : Nat) (pre : List Nat) : Nat := match pre.getLast? with
  | none => k
  | some x => (E x).getD 0 + 1
theorem fromK_snoc (E : Nat → Option Nat) (k : Nat) (pre : List Nat) (x j : Nat) (h : E x = some j) : fromK E k (pre ++ [x]) = j + 1 := by
  unfold fromK
  rw [List.getLast?_concat]
  simp [h]
theorem fromK_cons (E : Nat → Option Nat) (k y j : Nat) (pre : List Nat) (h : E y = some j) : fromK E k (y :: pre) = fromK E (j + 1) pre := by
  unfold fromK
  cases pre with
  | nil => simp [h]
  | cons z r =>
    rw [List.getLast?_cons_cons]
    cases hz : (z :: r).getLast? with
    | none => simp at hz
    | some a => rfl
theorem fromK_le {E : Nat → Option Nat} : ∀ (pre : List Nat) (k k' : Nat), k ≤ k' → fromK E k pre ≤ fromK E k' pre
  | [], k, k', h => h
  | _ :: _, _, _, _ => by unfold fromK; cases h : (_ :: _ : List Nat).getLast? <;> first | exact Nat.le_refl _ | (simp at h)
theorem kidF_pre {E : Nat → Option Nat} {e : Nat} (hlt : ∀ p j, E p = some j → p < j) : ∀ (f k : Nat) (pre : List Nat) (x : Nat), (pre ++ [x]) <+: kidF E e f k → fromK E k pre ≤ x ∧ k ≤ x ∧ x < e ∧ ∃ j, E x = some j
  | 0, k, pre, x, h => by have := h.length_le; simp [kidF] at this
  | f + 1, k, pre, x, h => by
    rw [kidF] at h
    split at h
    · rename_i hk
      split at h
      · rename_i j hj
        have hkj := hlt k j hj
        cases pre with
        | nil =>
          obtain ⟨t, ht⟩ := h
          injection ht with h1 h2
          subst h1
          exact ⟨Nat.le_refl _, Nat.le_refl _, hk, j, hj⟩
        | cons y pre =>
          rw [List.cons_append, List.cons_prefix_cons] at h
          obtain ⟨rfl, h⟩ := h
          obtain ⟨h1, h2, h3, h4⟩ := kidF_pre hlt f (j + 1) pre x h
          exact ⟨by rw [fromK_cons E y y j pre hj]; exact h1, by omega, h3, h4⟩
      · obtain ⟨h1, h2, h3, h4⟩ := kidF_pre hlt f (k + 1) pre x h
        exact ⟨Nat.le_trans (fromK_le pre k (k + 1) (Nat.le_succ _)) h1, by omega, h3, h4⟩
    · have := h.length_le
      simp at this
theorem kidF_end (E : Nat → Option Nat) (e f k : Nat) (h : e ≤ k) : kidF E e f k = [] := by
  cases f with
  | zero => rfl
  | succ f => rw [kidF, if_neg (by omega)]
theorem kidF_len {E : Nat → Option Nat} {e : Nat} (hlt : ∀ p j, E p = some j → p < j) : ∀ (f k : Nat), (kidF E e f k).length ≤ e - k
  | 0, _ => Nat.zero_le _
  | f + 1, k => by
    rw [kidF]
    split
    · split
      · rename_i j hj
        have := hlt k j hj
        have := kidF_len (e := e) hlt f (j + 1)
        rw [List.length_cons]
        omega
      · have := kidF_len (e := e) hlt f (k + 1)
        omega
    · exact Nat.zero_le _
/-- the last child ends ahead of the element's end. -/
theorem kidF_last {E : Nat → Option Nat} {e : Nat} (hlt : ∀ p j, E p = some j → p < j) (hin : ∀ p j, p < e → E p = some j → j < e) : ∀ (f k : Nat), k ≤ e → fromK E k (kidF E e f k) ≤ e
  | 0, k, h => h
  | f + 1, k, h => by
    rw [kidF]
    split
    · rename_i hk
      split
      · rename_i j hj
        have h1 := hin k j hk hj
        rw [fromK_cons E k k j _ hj]
        exact kidF_last hlt hin f (j + 1) h1
      · refine Nat.le_trans (fromK_le _ k (k + 1) (Nat.le_succ _)) ?_
        exact kidF_last hlt hin f (k + 1) hk
    · exact h
/-- what the iterator needs to find: its element's place, its tree. -/
structure TrK (Bi Bt p mb : Nat) (i : Nat) (v : Value) (g : Gr) (W : World) : Prop where
  bi : Boxed W Bi 3 (.int .i64 i)
  bt : Boxed W Bt 73 (.pointer (some ⟨p, 0, none⟩))
  tr : BlkAt W p #[v, .map (some mb), .int .i64 g.deep]
  mp : IMap W .i64 mb g.ends
/-- these blocks are kept. -/
def KeepsB (bs : List Nat) (W W' : World) : Prop := ∀ k ∈ bs, k < W.heap.size → W'.heap[k]? = W.heap[k]? ∧ W.heap.size ≤ W'.heap.size
theorem TrK.keep {Bi Bt p mb i : Nat} {v : Value} {g : Gr} {W W' : World} (h : TrK Bi Bt p mb i v g W) (hk : KeepsB [Bi, Bt, p, mb] W W') : TrK Bi Bt p mb i v g W' := by
  obtain ⟨h1, h2, h3, h4⟩ := h
  have l1 := h1.lt
  have l2 := h2.lt
  have l3 := h3.lt
  have l4 := h4.lt
  obtain ⟨t, h3⟩ := h3
  obtain ⟨es, c, h4, h5⟩ := h4
  exact ⟨((hk Bi (by simp) l1).1).trans h1, ((hk Bt (by simp) l2).1).trans h2, ⟨t, ((hk p (by simp) l3).1).trans h3⟩, es, c, ((hk mb (by simp) l4).1).trans h4, h5⟩
theorem KeepsB.trans {bs : List Nat} {A B C : World} (h : KeepsB bs A B) (k : KeepsB bs B C) : KeepsB bs A C := fun b hb hl => by
  obtain ⟨h1, h2⟩ := h b hb hl
  obtain ⟨h3, h4⟩ := k b hb (by omega)
  exact ⟨h3.trans h1, by omega⟩
theorem KeepsB.below {bs : List Nat} {A B : World} (h : Below A.heap.size A B) : KeepsB bs A B := fun b _ hl => ⟨h.block b hl, h.size⟩
theorem KeepsB.putObj {bs : List Nat} {W : World} {B : Nat} (hbs : ∀ b ∈ bs, b < B) (l : Nat) (o' : Obj) (hl : B ≤ l) : KeepsB bs W (W.putObj l o') := fun b hb _ =>
  ⟨World.putObj_heap_other (by have := hbs b hb; omega), by simp⟩
def NoMu : Obj → Prop := fun _ => False
theorem abides_dn {β : Type} {B : Nat} {J : β → World → Prop} (h : AbidesM NoMu B J) {s : β} {W : World} (n : Nat) (hj : J s W) : J s (W.drewN n) :=
  h s W _ none hj ⟨rfl, rfl, rfl, Nat.le_refl _, fun _ _ _ => rfl⟩ (fun r e => by cases e)
theorem abides_d {β : Type} {B : Nat} {J : β → World → Prop} (h : AbidesM NoMu B J) {s : β} {W : World} (hj : J s W) : J s W.drew :=
  h s W _ none hj ⟨rfl, rfl, rfl, Nat.le_refl _, fun _ _ _ => rfl⟩ (fun r e => by cases e)
/-- 'end, is := t.ends[k]'. -/
theorem ends_look2 {W : World} {b : Nat} {g : Gr} (h : IMap W .i64 b g.ends) (i : Int) :
    (Instr.lookup 80 (.map (some b)) (.int .i64 i) true).run Try.prog W = .ok (.tuple #[endV g i, .bool (aGet g.ends i).isSome]) W :=
  (h.lookup (t := 80) Try.underlying80 Try.underlying3 (.int .i64 0) (zInt W) i).1
theorem endV_some {g : Gr} (hc : ∀ (p : Nat) (u : Value), aGet g.ends (p : Int) = some u → ∃ j : Nat, u = .int .i64 j) {k j : Nat} (h : endO g k = some j) : endV g k = .int .i64 j ∧ (aGet g.ends (k : Int)).isSome = true := by
  unfold endO at h
  unfold endV
  cases ha : aGet g.ends (k : Int) with
  | none => rw [ha] at h; cases h
  | some u =>
    obtain ⟨j', rfl⟩ := hc k u ha
    rw [ha] at h
    simp at h
    subst h
    exact ⟨rfl, rfl⟩
theorem endV_none {g : Gr} (hc : ∀ (p : Nat) (u : Value), aGet g.ends (p : Int) = some u → ∃ j : Nat, u = .int .i64 j) {k : Nat} (h : endO g k = none) : endV g k = .int .i64 0 ∧ (aGet g.ends (k : Int)).isSome = false := by
  unfold endO at h
  unfold endV
  cases ha : aGet g.ends (k : Int) with
  | none => exact ⟨rfl, rfl⟩
  | some u =>
    obtain ⟨j', rfl⟩ := hc k u ha
    rw [ha] at h
    simp at h
set_option maxRecDepth 100000 in
set_option maxHeartbeats 4000000 in
theorem kids1_in (n : Nat) (hn : 1 ≤ n) (l Bi Bt p mb i e : Nat) (v : Value) (g : Gr) (hcell : ∀ (p : Nat) (u : Value), aGet g.ends (p : Int) = some u → ∃ j : Nat, u = .int .i64 j)
    (hlt : ∀ p j, endO g p = some j → p < j ∧ j < 1000000) (hie : endO g i = some e) (J Jx : List Nat → World → Prop) (B0 : Nat) (hab : AbidesM NoMu B0 J)
    (hY : ∀ pre x W, J pre W → (pre ++ [x]) <+: kidsL (endO g) i e → pre.length < 1000000 → YieldAt Fence.wide (n - 1) Try.prog l #[.int .i64 (x : Nat)] W fun e W' =>
      (e = .returned (.bool true) ∧ J (pre ++ [x]) W' ∧ KeepsB [Bi, Bt, p, mb] W W') ∨ (e = .returned (.bool false) ∧ Jx (pre ++ [x]) W'))
    (W : World) (hT : TrK Bi Bt p mb i v g W) (h0 : J [] W) :
    CallsIn Fence.wide n Try.prog 96 #[.func (.yield l) #[] #[], .pointer (some ⟨Bi, 0, none⟩), .pointer (some ⟨Bt, 0, none⟩)] W fun e' W' => (∃ v, e' = .returned v) ∧
      (J (kidsL (endO g) i e) W' ∨ (∃ pre, pre <+: kidsL (endO g) i e ∧ Jx pre W')) := by
  refine callsIn_of_wp Try.func96 rfl trivial ?_ rfl
  simp only [Try.ntmps96, List.size_toArray, List.length_cons, List.length_nil, Nat.reduceAdd, Nat.reduceSub, Array.replicate_succ, Array.replicate_zero, List.push_toArray, List.append_toArray, List.nil_append, List.cons_append]
  obtain ⟨hie1, hie2⟩ := hlt i e hie
  have hevi := (endV_some hcell hie).1
  have c0 := hT.bi.cell
  gi_wp2_with fail
  gi_loopw [4] (fun k wr => ∃ (kn f : Nat) (done : List Nat), k = .int .i64 kn ∧ kn ≤ 1000001 ∧ e ≤ f + kn ∧ kidsL (endO g) i e = done ++ kidF (endO g) e f kn ∧ J done wr ∧ TrK Bi Bt p mb i v g wr) (fun k _ => 1000001 - (intOf k).toNat)
  case atStart => exact ⟨i + 1, e, [], by go_num, by omega, by omega, rfl, h0, hT⟩
  case round =>
    obtain ⟨kn, f, done, rfl, hk1, hef, hL, hJ, hT⟩ := hrel
    have hT1 : TrK Bi Bt p mb i v g wr.drew := ⟨hT.bi, hT.bt, hT.tr, hT.mp⟩
    have hJ1 := abides_d hab hJ
    have d0 := hT.bi.cell
    have d1 := hT.bt.cell
    have d2 : _ = some (Value.map (some mb)) := hT.tr.cell 1 rfl
    have hlk := ends_look hT.mp (i : Int)
    have hlk1 := ends_look (W := wr.drew) (g := g) hT.mp (i : Int)
    rw [hevi] at hlk hlk1
    by_cases hke : kn < e
    · have hd := decide_eq_true (show (kn : Int) < (e : Int) by omega)
      gi_wp2_with fail
      gi_region
      generalize wr.drew = w1 at hT1 hJ1 hlk1 ⊢
      clear hT hJ hlk hlk1 d0 d1 d2
      have d1 := hT1.bt.cell
      have d2 : _ = some (Value.map (some mb)) := hT1.tr.cell 1 rfl
      have hlk := ends_look2 hT1.mp (kn : Int)
      obtain ⟨f, rfl⟩ : ∃ f', f = f' + 1 := ⟨f - 1, by omega⟩
      rw [kidF, if_pos hke] at hL
      cases hE : endO g kn with
      | none =>
        obtain ⟨h1, h2⟩ := endV_none hcell hE
        rw [h1, h2] at hlk
        rw [hE] at hL
        clear hY
        gi_wp2_with fail
        go_roundw
        case rel => exact ⟨kn + 1, f, done, by go_num, by omega, by omega, hL, hJ1, hT1⟩
        case measure => simp [intOf]; omega
      | some j =>
        obtain ⟨h1, h2⟩ := endV_some hcell hE
        rw [h1, h2] at hlk
        rw [hE] at hL
        obtain ⟨hj1, hj2⟩ := hlt kn j hE
        have hL2 : kidsL (endO g) i e = (done ++ [kn]) ++ kidF (endO g) e f (j + 1) := by rw [hL]; simp
        have hdl : done.length < 1000000 := by
          have h3 := congrArg List.length hL2
          have h4 := kidF_len (e := e) (fun p j h => (hlt p j h).1) e (i + 1)
          rw [show kidF (endO g) e e (i + 1) = kidsL (endO g) i e from rfl, h3] at h4
          simp only [List.length_append, List.length_cons, List.length_nil] at h4
          omega
        have hYW := hY done kn w1 hJ1 ⟨_, hL2.symm⟩ hdl
        obtain ⟨fn, tmps, assign, body, hy, hR2⟩ := hYW
        clear hY
        gi_wp2_with fail
        refine hR2.mono ?_
        rintro e' W3 (⟨rfl, hJ3, hk3⟩ | ⟨rfl, hJx3⟩)
        · have hT3 := hT1.keep hk3
          clear hk3 hT1 hy hR2
          gi_wp2_with fail
          go_roundw
          case rel => exact ⟨j + 1, f, done ++ [kn], by go_num, by omega, by omega, hL2, hJ3, hT3⟩
          case measure => simp [intOf]; omega
        · gi_wp2_with fail
          refine bodyPost_ret (results_none rfl _ _ _) rfl ?_
          exact ⟨⟨_, rfl⟩, .inr ⟨_, ⟨_, hL2.symm⟩, hJx3⟩⟩
    · have hd := decide_eq_false (show ¬ (kn : Int) < (e : Int) by omega)
      rw [kidF_end _ _ _ _ (by omega), List.append_nil] at hL
      clear hY
      gi_wp2_with fail
      gi_region
      gi_wp2_with fail
      go_end0
      exact ⟨⟨_, rfl⟩, .inl (by rw [hL]; exact hJ1)⟩
/-- a child of the element at i. -/
theorem kids_stops (n : Nat) (hn : 1 ≤ n) (Bi Bt p mb i e : Nat) (v : Value) (g : Gr) (hcell : ∀ (p : Nat) (u : Value), aGet g.ends (p : Int) = some u → ∃ j : Nat, u = .int .i64 j)
    (hlt : ∀ p j, endO g p = some j → p < j ∧ j < 1000000) (hie : endO g i = some e) (w : World) (hT : TrK Bi Bt p mb i v g w) :
    SeqStopsP NoMu Fence.wide n Try.prog 96 #[.pointer (some ⟨Bi, 0, none⟩), .pointer (some ⟨Bt, 0, none⟩)] (fun x : Nat => #[.int .i64 (x : Nat)]) (KeepsB [Bi, Bt, p, mb]) (fun ys => ys = kidsL (endO g) i e) (fun pre => pre <+: kidsL (endO g) i e) 1000000 w := fun l J Jx W hW hJ hJx hY h0 => by
  have h := kids1_in n hn l Bi Bt p mb i e v g hcell hlt hie J Jx W.heap.size hJ hY W (hT.keep (KeepsB.below hW)) h0
  refine h.mono ?_
  rintro e' W' ⟨hv, h | h⟩
  · exact ⟨hv, .inl ⟨_, rfl, h⟩⟩
  · exact ⟨hv, .inr h⟩
theorem tree_kids_in (F : Fence) (n : Nat) (h27 : F.fn 64) (hro : F.round = none) (q : Option Addr) (i : Int) (w : World) :
    CallsIn F n Try.prog 64 #[.pointer q, .int .i64 i] w fun e w' => e = .returned (.func (.func 96) #[] #[.pointer (some ⟨w.heap.size + 1, 0, none⟩), .pointer (some ⟨w.heap.size, 0, none⟩)]) ∧ w' = (w.alloc (.cells #[.pointer q] 73)).alloc (.cells #[.int .i64 i] 3) := by
  refine callsIn_of_wp Try.func64 rfl h27 ?_ hro
  simp only [Try.ntmps64, List.size_toArray, List.length_cons, List.length_nil, Nat.reduceAdd, Nat.reduceSub, Array.replicate_succ, Array.replicate_zero, List.push_toArray, List.append_toArray, List.nil_append, List.cons_append]
  gi_wp2
  go_ret
  exact ⟨by simp, rfl⟩
end Go.Proofs.Yteefopeclfojiaa
