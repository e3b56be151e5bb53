/-
  Parts LaE LaF LaG MeP MeA MeB MeQ MeC MeD MeE of this seat's texts, in one file: contracts of functions that the law reaches, and the plain laws behind them. No condition.
-/
import Derived.Test.YthahfoliblgegaaGreatDoorG6
import Derived.RangeFuncNested
import Derived.RangeFuncOwn
import Derived.RangeFuncBound
import Derived.RangeFuncCalls
import Derived.RangeFuncLeaves
import Derived.Shelf.Abstract
import Derived.Shelf.RegionOpen
import Derived.OwnWalkIn
import Derived.LoopIn
import Derived.Test.YthahfoliblgegaaGreatDoorG1
import Derived.Lib.Bytealg
import Derived.Lib.Walk
import Derived.BigQuiet
import Derived.Laws.Rows
import Derived.Lib.ConvBytes
import Derived.Lib.BufferMore
/- 
  Layer 5: the walk of the iterator over all labels, and of Of.
 -/
namespace Go.Proofs.YthahfoliblgegaaGreatDoor
open Go.RowKit
attribute [local go_sem] Oper.semAt_some
/-- whatever is cells lies as it lay. -/
def KeepsC (W W' : World) : Prop := ∀ (k : Nat) (c : Array Value) (t : TypeId) (m : Nat × Nat), W.heap[k]? = some (Obj.cells c t m) → W'.heap[k]? = some (Obj.cells c t m)
theorem KeepsC.trans {A B C : World} (h : KeepsC A B) (k : KeepsC B C) : KeepsC A C := fun i c t m hi => k i c t m (h i c t m hi)
theorem KeepsC.below {A B : World} (h : Below A.heap.size A B) : KeepsC A B := fun _ _ _ _ hk => (h.block _ (Array.getElem?_eq_some_iff.1 hk).1).trans hk
theorem KeepsC.putObj (W : World) (l : Nat) (o o' : Obj) (hW : W.heap[l]? = some o) (hc : o.isCells = false) : KeepsC W (W.putObj l o') := fun k c t m hk => by
  refine ((grownBy_putObj' W l o').block k (Array.getElem?_eq_some_iff.1 hk).1 (fun e => ?_)).trans hk
  injection e with e
  subst e
  rw [hk] at hW
  cases hW
  cases hc
theorem KeepsC.cell {W W' : World} (h : KeepsC W W') {b o : Nat} {v : Value} (hc : W.cell? ⟨b, o, none⟩ = some v) : W'.cell? ⟨b, o, none⟩ = some v := by
  simp only [World.cell?] at hc ⊢
  cases hb : W.heap[b]? with
  | none => rw [hb] at hc; simp at hc
  | some ob =>
    cases ob with
    | cells c t m => rw [h b c t m hb]; rw [hb] at hc; exact hc
    | _ => rw [hb] at hc; simp at hc
theorem KeepsC.tab {W W' : World} (h : KeepsC W W') (ht : TabAt W) : TabAt W' := by
  have hgn : Tryz.prog.globalNamed "strings.asciiSpace" = some 0 := by kernel_rfl
  unfold TabAt Lib.TabIs World.var? at ht ⊢
  rw [hgn] at ht ⊢
  simp only [Option.bind_some] at ht ⊢
  cases hb : W.heap[0]? with
  | none => rw [hb] at ht; cases ht
  | some ob =>
    cases ob with
    | cells c t m => rw [h _ c t m hb]; rw [hb] at ht; exact ht
    | _ => rw [hb] at ht; cases ht
theorem i8_succ (e : Nat) (h : e < 6) : IntKind.i8.wrap ((e : Int) + 1) = (e : Int) + 1 := by
  have h6 : e = 0 ∨ e = 1 ∨ e = 2 ∨ e = 3 ∨ e = 4 ∨ e = 5 := by omega
  rcases h6 with rfl | rfl | rfl | rfl | rfl | rfl <;> rfl
theorem grown_below5 {w w' : World} (hb : Below w.heap.size w w') (row : Option Nat) : w.grownBy w' row := ⟨hb.os, hb.tape, hb.output, hb.size, fun b hb' _ => hb.block b hb'⟩
set_option maxRecDepth 100000 in
set_option maxHeartbeats 4000000 in
theorem each_in (n : Nat) (hn : 1 ≤ n) (l : Nat) (J Jx : List (Int × ByteArray) → World → Prop) (B0 : Nat) (hab : AbidesFrom B0 J)
    (hY : ∀ pre x W, J pre W → (pre ++ [x]) <+: restP 0 → YieldAt Fence.wide (n - 1) Tryz.prog l #[.int .i8 x.1, .string x.2] W fun e W' =>
      (e = .returned (.bool true) ∧ J (pre ++ [x]) W' ∧ KeepsC W W') ∨ (e = .returned (.bool false) ∧ Jx (pre ++ [x]) W'))
    (W : World) (ht : TabAt W) (h0 : J [] W) :
    CallsIn Fence.wide n Tryz.prog 58 #[.func (.yield l) #[] #[]] W fun e W' => (∃ v, e = .returned v) ∧ (J (restP 0) W' ∨ (∃ pre, pre <+: restP 0 ∧ Jx pre W')) := by
  refine callsIn_of_wp Tryz.func58 rfl trivial ?_ rfl
  simp only [Tryz.ntmps58, List.size_toArray, List.length_cons, List.length_nil, Nat.reduceAdd, Nat.reduceSub, Array.replicate_succ, Array.replicate_zero, List.push_toArray, List.append_toArray, List.nil_append, List.cons_append]
  gi_wp2
  gi_loopw [5] (fun a wr => ∃ (e : Nat) (done : List (Int × ByteArray)), a = .int .i8 e ∧ e ≤ 6 ∧ J done wr ∧ TabAt wr ∧ Hid (restP 0 = done ++ restP e)) (fun a _ => 6 - (intOf a).toNat)
  case atStart => exact ⟨0, [], rfl, by omega, h0, ht, Lib.hid (by simp)⟩
  case round =>
    obtain ⟨e, done, rfl, he, hJ, htw, HQ⟩ := hrel
    by_cases hlt : e < 6
    · have hwr : IntKind.i8.wrap ((e : Int) + 1) = (e : Int) + 1 := i8_succ e hlt
      have HL := Lib.hid (label_All (e : Int) wr htw)
      have hll := labL_len (e : Int)
      have hR := restP_step e hlt
      obtain ⟨L, hL⟩ : ∃ L, labL (e : Int) = L := ⟨_, rfl⟩
      have hpr : pairP e = L.map fun l => ((e : Int), l) := by unfold pairP; rw [hL]
      rw [hL] at HL hll
      have HQ2 := Lib.hid (show restP 0 = done ++ (L.map fun l => ((e : Int), l)) ++ restP (e + 1) by rw [HQ.out, hR, hpr, List.append_assoc])
      clear hR hpr hL
      have hei : (e : Int) < 6 := by omega
      gi_wp2_with fail
      refine ⟨trivial, (callsIn_wide.2 HL.out).mono ?_⟩
      rintro e' w2 ⟨v, rfl, hr, hb⟩
      obtain ⟨a, cap, rfl, hc⟩ := hr.texts
      have j2 := hab _ _ _ none hJ (grown_below5 hb none) (fun r e => by cases e)
      have t2 := htw.below hb
      have HC := Lib.hid hc
      clear hr hc
      gi_wp2_with fail
      gi_loopw [11] (fun i wr2 => ∃ (j : Nat) (done2 : List (Int × ByteArray)), i = .int .i64 j ∧ j ≤ L.length ∧ J done2 wr2 ∧ TabAt wr2 ∧ KeepsC w2 wr2 ∧ Hid (restP 0 = done2 ++ ((L.map fun l => ((e : Int), l)).drop j ++ restP (e + 1)))) (fun i _ => L.length - (intOf i).toNat)
      case atStart => exact ⟨0, done, rfl, by omega, j2, t2, fun _ _ _ _ h => h, Lib.hid (by rw [HQ2.out, List.drop_zero, List.append_assoc])⟩
      case round =>
        obtain ⟨j, done2, rfl, hj, hJ2, ht2, hk2, HD⟩ := hrel
        by_cases hjl : j < L.length
        · obtain ⟨b, off, rfl, hbl, hcc⟩ := HC.out j hjl
          have hc2 := hk2.cell hcc
          obtain ⟨X, hX⟩ : ∃ X, L[j] = X := ⟨_, rfl⟩
          rw [hX] at hc2
          have hdr : (L.map fun l => ((e : Int), l)).drop j = ((e : Int), X) :: (L.map fun l => ((e : Int), l)).drop (j + 1) := by
            rw [List.drop_eq_getElem_cons (by rw [List.length_map]; exact hjl), List.getElem_map, hX]
          have HD2 := Lib.hid (show restP 0 = (done2 ++ [((e : Int), X)]) ++ ((L.map fun l => ((e : Int), l)).drop (j + 1) ++ restP (e + 1)) by rw [HD.out, hdr]; simp)
          have hYW := hY done2 ((e : Int), X) _ hJ2 ⟨_, HD2.out.symm⟩
          dsimp only at hYW
          obtain ⟨fn, tmps, assign, body, hy, hR2⟩ := hYW
          clear hX hcc hdr
          gi_wp2
          refine hR2.mono ?_
          rintro e' W3 (⟨rfl, hJ3, hk3⟩ | ⟨rfl, hJx3⟩)
          · gi_wp2
            go_roundw
            case rel => exact ⟨j + 1, _, by go_num, by omega, hJ3, hk3.tab ht2, hk2.trans hk3, HD2⟩
            case measure => simp [intOf]; omega
          · gi_wp2
            refine bodyPost_ret (results_none rfl _ _ _) rfl ?_
            exact ⟨⟨_, rfl⟩, .inr ⟨_, ⟨_, HD2.out.symm⟩, hJx3⟩⟩
        · have HE := Lib.hid (show restP 0 = done2 ++ restP (e + 1) by rw [HD.out, List.drop_eq_nil_of_le (by rw [List.length_map]; omega), List.nil_append])
          gi_wp2
          go_roundw
          case rel => exact ⟨e + 1, done2, by simp, by omega, hJ2, ht2, HE⟩
          case measure => simp [intOf]; omega
    · have HE := Lib.hid (show restP 0 = done by rw [HQ.out, show e = 6 by omega, restP_end, List.append_nil])
      gi_wp2
      go_end0
      exact ⟨⟨_, rfl⟩, .inl (by rw [HE.out]; exact hJ)⟩
end Go.Proofs.YthahfoliblgegaaGreatDoor
/- 
  Layer 5: the walk of Of.
 -/
namespace Go.Proofs.YthahfoliblgegaaGreatDoor
open Go.RowKit
attribute [local go_sem] Oper.semAt_some
theorem each_stops (n : Nat) (hn : 1 ≤ n) (w : World) (ht : TabAt w) :
    SeqStopsK Fence.wide n Tryz.prog 58 #[] (fun x : Int × ByteArray => #[.int .i8 x.1, .string x.2]) KeepsC (fun ys => ys = restP 0) (fun pre => pre <+: restP 0) (restP 0).length w := fun l J Jx W hW hJ _ hY h0 => by
  have h := each_in n hn l J Jx W.heap.size hJ (fun pre x W1 hj hp => hY pre x W1 hj (by have := hp.length_le; rw [List.length_append, List.length_singleton] at this; omega)) W (ht.below hW) h0
  refine CallsIn.mono ?_ ?_ (R := fun e W' => (∃ v, e = .returned v) ∧ (J (restP 0) W' ∨ (∃ pre, pre <+: restP 0 ∧ Jx pre W')))
  · simpa using h
  · rintro e W' ⟨hv, h | h⟩
    · exact ⟨hv, .inl ⟨_, rfl, h⟩⟩
    · exact ⟨hv, .inr h⟩
/-- the text that is looked for. -/
def wantS (s : ByteArray) : ByteArray := strOfNums (lowL (nums (trimS s)))
set_option maxRecDepth 100000 in
set_option maxHeartbeats 4000000 in
theorem label_Of (s : ByteArray) (hs : s.size ≤ 1000000) (w : World) (ht : TabAt w) :
    Calls Tryz.prog 26 #[.string s] w fun e w' => e = .returned (.tuple #[.int .i8 (ofS (wantS s)).1, .bool (ofS (wantS s)).2]) ∧ Below w.heap.size w w' := by
  have hts := trimS_size s
  obtain ⟨T, hT⟩ : ∃ T, trimS s = T := ⟨_, rfl⟩
  have hX : wantS s = strOfNums (lowL (nums T)) := by unfold wantS; rw [hT]
  obtain ⟨X, hXX⟩ : ∃ X, strOfNums (lowL (nums T)) = X := ⟨_, rfl⟩
  rw [hXX] at hX
  rw [hT] at hts
  have H1 := Lib.hid (fun u => by have h := label_Trim s u hs; rw [hT] at h; exact h)
  have H2 := Lib.hid (fun u => by have h := label_Lower T u (by omega); rw [hXX] at h; exact h)
  have HX := Lib.hid hX
  clear hT hXX hX
  refine (callsIn_wide (n := 5)).1 ?_
  refine callsIn_of_wp_marks Tryz.func26 rfl trivial ?_ rfl
  simp only [Tryz.ntmps26, List.size_toArray, List.length_cons, List.length_nil, Nat.reduceAdd, Nat.reduceSub, Array.replicate_succ, Array.replicate_zero, List.push_toArray, List.append_toArray, List.nil_append, List.cons_append]
  gi_wp2_with fail
  refine ⟨trivial, (callsIn_wide.2 (H1.out _)).mono ?_⟩
  rintro e w' ⟨rfl, hb1⟩
  gi_wp2_with fail
  refine ⟨trivial, (callsIn_wide.2 (H2.out _)).mono ?_⟩
  rintro e w'2 ⟨rfl, hb2⟩
  gi_wp2_with fail
  have bA := (Boxed.new w 23 (.int .i8 0)).alloc (.cells #[.bool false] 4)
  have bB := Boxed.new (w.alloc (.cells #[.int .i8 0] 23)) 4 (.bool false)
  have e0 := ((Below.refl w.heap.size w).alloc (Nat.le_refl _) (.cells #[.int .i8 0] 23)).alloc (by simp) (.cells #[.bool false] 4)
  have s0 : ((w.alloc (.cells #[.int .i8 0] 23)).alloc (.cells #[.bool false] 4)).heap.size = w.heap.size + 2 := by simp
  rw [show (w.alloc (.cells #[.int .i8 0] 23)).heap.size = w.heap.size + 1 from World.size_alloc _ _] at bB
  obtain ⟨w0, hw0⟩ : ∃ x, (w.alloc (.cells #[.int .i8 0] 23)).alloc (.cells #[.bool false] 4) = x := ⟨_, rfl⟩
  rw [hw0] at bA bB e0 s0 hb1
  clear hw0
  have bA : Boxed w'2 w.heap.size 23 (.int .i8 0) := ((bt hb1 hb2).block _ (by omega)).trans bA
  have bB : Boxed w'2 (w.heap.size + 1) 4 (.bool false) := ((bt hb1 hb2).block _ (by omega)).trans bB
  have e2 : Below w.heap.size w w'2 := e0.trans ((bt hb1 hb2).mono (by omega))
  have z2 : w.heap.size + 2 ≤ w'2.heap.size := by have := (bt hb1 hb2).size; omega
  have bE := Boxed.new w'2 9 (.string X)
  have bA := Boxed.alloc bA (.cells #[.string X] 9)
  have bB := Boxed.alloc bB (.cells #[.string X] 9)
  have e3 := e2.alloc e2.size (.cells #[.string X] 9)
  have s3 : (w'2.alloc (.cells #[.string X] 9)).heap.size = w'2.heap.size + 1 := World.size_alloc _ _
  obtain ⟨P, hP⟩ : ∃ x, w'2.heap.size = x := ⟨_, rfl⟩
  rw [hP] at bE s3 z2
  obtain ⟨w3, hw3⟩ : ∃ x, w'2.alloc (.cells #[.string X] 9) = x := ⟨_, rfl⟩
  rw [hw3] at bA bB bE e3 s3
  rw [hP, hw3]
  clear hw3 hP e2 hb1 hb2 e0 s0
  refine wpIn_rangeFunc_ownH rfl (by omega) (gf := 58) (lb := #[]) rfl trivial (enters_of Tryz.func58 (by kernel_rfl) rfl)
    (each_stops _ (by omega) w3 (ht.below e3)) KeepsC.trans (fun W l o o' _ h1 h2 _ => KeepsC.putObj W l o o' h1 h2) (Below.refl _ _) (fun _ => rfl)
    (fun pre W => (((Boxed W w.heap.size 23 (.int .i8 0) ∧ Boxed W (w.heap.size + 1) 4 (.bool false)) ∧ Boxed W P 9 (.string X)) ∧ Below w.heap.size w W) ∧ ∀ p ∈ pre, (p.2.toList == X.toList) = false)
    (fun c pre W => ((∃ (g : List (Int × ByteArray)) (x : Int × ByteArray), (pre = g ++ [x] ∧ (∀ p ∈ g, (p.2.toList == X.toList) = false) ∧ (x.2.toList == X.toList) = true) ∧ Boxed W w.heap.size 23 (.int .i8 x.1) ∧ Boxed W (w.heap.size + 1) 4 (.bool true)) ∧ Below w.heap.size w W) ∧ c = .ret)
    (OwnFrom.and (OwnFrom.and (OwnFrom.and (OwnFrom.and (Own.from (boxed_own _ _ (fun _ => .int .i8 0)) _) (Own.from (boxed_own _ _ (fun _ => .bool false)) _)) (Own.from (boxed_own _ _ (fun _ => .string X)) _)) (ownFrom_below (Nat.le_refl _) (by omega))) (ownFrom_pure _ _))
    ?ownx
    ⟨⟨⟨⟨bA, bB⟩, bE⟩, e3⟩, fun x hx => by cases hx⟩
    (fun x a' W => a' = { tmps := #[.string s, undef, .pointer (some ⟨w.heap.size, 0, none⟩), .pointer (some ⟨w.heap.size + 1, 0, none⟩), .pointer (some ⟨P, 0, none⟩), .int .i8 x.1, .string x.2, .string s, .string T, .string X, .int .i8 x.1, .string x.2, undef, undef, undef, undef], defers := [] })
    (fun x a' => ownFrom_pure _ _) ?assign ?body ?done ?stop
  case ownx =>
    rintro c pre X' Y row ⟨⟨⟨g, x, h, b1, b2⟩, hb⟩, rfl⟩ hg hr
    have hn : ∀ {k t v}, Boxed X' k t v → some k ≠ row := by
      intro k t v hk e
      obtain ⟨_, o, ho, hc⟩ := hr k e.symm
      rw [show X'.heap[k]? = _ from hk] at ho
      cases ho
      cases hc
    exact ⟨⟨⟨g, x, h, b1.kept hg (hn b1), b2.kept hg (hn b2)⟩, (ownFrom_below (β := Unit) (Nat.le_refl _) (by omega)) () X' Y row hb hg hr⟩, rfl⟩
  case assign =>
    rintro l pre x W K hI hK
    dsimp only
    gi_wp2
    exact hK _ _ ((KeepsOthers.refl _).from _) (fun _ _ _ _ h => h) hI rfl
  case body =>
    rintro l pre x a' W hl hrec ⟨⟨⟨⟨hr1, hr2⟩, hsb⟩, hB⟩, hall⟩ rfl hlt
    have c1 := hr1.cell
    have c2 := hr2.cell
    have c3 := hsb.cell
    have f1 := hr1.frozen
    have f2 := hr2.frozen
    obtain ⟨en, L⟩ := x
    dsimp only
    cases he : L.toList == X.toList with
    | true =>
      gi_wp2_with fail
      refine ⟨((KeepsOthers.setCell _ _ _).trans (KeepsOthers.setCell _ _ _)).from _, ⟨⟨pre, (en, L), ⟨rfl, hall, he⟩, ?_, ?_⟩, ?_⟩, rfl⟩
      · exact (hr1.set _).other (by omega) _
      · exact (hr2.other (by omega) _).set _
      · exact (hB.setCell (p := ⟨w.heap.size, 0, none⟩) (Nat.le_refl _) _).setCell (p := ⟨w.heap.size + 1, 0, none⟩) (by simp) _
    | false =>
      gi_wp2_with fail
      refine ⟨(KeepsOthers.refl _).from _, fun _ _ _ _ h => h, ⟨⟨⟨hr1, hr2⟩, hsb⟩, hB⟩, fun p hp => ?_⟩
      rw [List.mem_append, List.mem_singleton] at hp
      rcases hp with hp | rfl
      · exact hall p hp
      · exact he
  case done =>
    rintro D ys W hD rfl ⟨⟨⟨⟨hr1, hr2⟩, hsb⟩, hB⟩, hall⟩ hK
    have c1 := hr1.cell
    have c2 := hr2.cell
    have f1 := hr1.frozen
    have f2 := hr2.frozen
    have HV := Lib.hid (show ofS (wantS s) = (0, false) by rw [HX.out]; exact ofP_none X _ hall)
    gi_wp2
    have b1 := (hr1.set (.int .i8 0)).other (B' := w.heap.size + 1) (by omega) (.bool false)
    have b2 := (hr2.other (B' := w.heap.size) (by omega) (.int .i8 0)).set (.bool false)
    have hKd := ((KeepsOthers.setCell W ⟨w.heap.size, 0, none⟩ (.int .i8 0)).trans (KeepsOthers.setCell _ ⟨w.heap.size + 1, 0, none⟩ (.bool false))).same D _ hK rfl
    have hBf := (hB.setCell (p := ⟨w.heap.size, 0, none⟩) (Nat.le_refl _) (.int .i8 0)).setCell (p := ⟨w.heap.size + 1, 0, none⟩) (by simp) (.bool false)
    refine ⟨by simp, .inl ⟨_, _, rfl, run_takeDeferred hKd, ?_⟩⟩
    have k1 := cell_kept b1.cell (grownBy_putObj' _ D (.deferred none)) (fun r e => by cases e; exact ⟨_, hKd, rfl⟩)
    have k2 := cell_kept b2.cell (grownBy_putObj' _ D (.deferred none)) (fun r e => by cases e; exact ⟨_, hKd, rfl⟩)
    refine ⟨.tuple #[.int .i8 0, .bool false], ?_, by rw [HV.out], hBf.trans (belowK_b (w := w) (Nat.le_refl _) _ D _ _ (by omega) hKd rfl rfl)⟩
    simp [results, Tryz.f26, go_sem, k1, k2]
  case stop =>
    rintro D c pre W hD hp ⟨⟨⟨g, x, ⟨rfl, hg, hx⟩, h1, h2⟩, hB⟩, rfl⟩ hK
    have HV := Lib.hid (show ofS (wantS s) = (x.1, true) by rw [HX.out]; exact ofP_some X _ g x hp hg hx)
    gi_wp2
    refine ⟨by simp, .inl ⟨_, _, rfl, run_takeDeferred hK, ?_⟩⟩
    have k1 := cell_kept h1.cell (grownBy_putObj' _ D (.deferred none)) (fun r e => by cases e; exact ⟨_, hK, rfl⟩)
    have k2 := cell_kept h2.cell (grownBy_putObj' _ D (.deferred none)) (fun r e => by cases e; exact ⟨_, hK, rfl⟩)
    refine ⟨.tuple #[.int .i8 x.1, .bool true], ?_, by rw [HV.out], hB.trans (belowK_b (w := w) (Nat.le_refl _) W D _ _ (by omega) hK rfl rfl)⟩
    simp [results, Tryz.f26, go_sem, k1, k2]
end Go.Proofs.YthahfoliblgegaaGreatDoor
/- 
  Layer 5: the document's Of, Texts; the law's own waking.
 -/
namespace Go.Proofs.YthahfoliblgegaaGreatDoor
open Go.RowKit
set_option maxHeartbeats 1000000 in
theorem ref05_Of (s : ByteArray) (hs : s.size ≤ 1000000) (w : World) :
    Calls Tryz.prog 30 #[.string s] w fun e w' => e = .returned (.tuple #[.int .i8 (ofS (wantS s)).1, .bool (ofS (wantS s)).2]) ∧ Below w.heap.size w w' := by
  have hts := trimS_size s
  obtain ⟨T, hT⟩ : ∃ T, trimS s = T := ⟨_, rfl⟩
  have hX : wantS s = strOfNums (lowL (nums T)) := by unfold wantS; rw [hT]
  obtain ⟨X, hXX⟩ : ∃ X, strOfNums (lowL (nums T)) = X := ⟨_, rfl⟩
  rw [hXX] at hX
  rw [hT] at hts
  have H1 := Lib.hid (fun u => by have h := ref05_Trim s u hs; rw [hT] at h; exact h)
  have H2 := Lib.hid (fun u => by have h := ref05_Lower T u (by omega); rw [hXX] at h; exact h)
  rw [hX]
  clear hT hXX hX
  go_enter Tryz.func30, Tryz.ntmps30
  go_wp2_with fail
  refine (H1.out _).mono ?_
  rintro e w' ⟨rfl, rfl⟩
  go_wp2_with fail
  refine (H2.out _).mono ?_
  rintro e w1 ⟨rfl, hb1⟩
  go_wp2_with fail
  go_loopw [5] (fun a wr => ∃ (e : Nat), a = .int .i8 e ∧ e ≤ 6 ∧ Below w.heap.size w wr ∧ Hid (ofS X = ofP X (restP e))) (fun a _ => 6 - (intOf a).toNat)
  case atStart => exact ⟨0, rfl, by omega, hb1, Lib.hid rfl⟩
  case round =>
    obtain ⟨e, rfl, he, hbw, HQ⟩ := hrel
    by_cases hlt : e < 6
    · have hwr : IntKind.i8.wrap ((e : Int) + 1) = (e : Int) + 1 := i8_succ e hlt
      have HL := Lib.hid (fun u => ref05_All (e : Int) u)
      have hll := labL_len (e : Int)
      have hR := restP_step e hlt
      obtain ⟨L, hL⟩ : ∃ L, labL (e : Int) = L := ⟨_, rfl⟩
      have hpr : pairP e = L.map fun l => ((e : Int), l) := by unfold pairP; rw [hL]
      rw [hL] at HL hll
      have HQ2 := Lib.hid (show ofS X = ofP X ((L.map fun l => ((e : Int), l)) ++ restP (e + 1)) by rw [HQ.out, hR, hpr])
      clear hR hpr hL
      have hei : (e : Int) < 6 := by omega
      go_wp2_with fail
      refine (HL.out _).mono ?_
      rintro e' w2 ⟨v, rfl, hr, hb⟩
      have hbw2 := bt hbw hb
      obtain ⟨a, cap, rfl, hc⟩ := hr.texts
      have HC := Lib.hid hc
      clear hr hc
      go_wp2_with fail
      go_loop [7] (fun i => ∃ (j : Nat), i = .int .i64 j ∧ j ≤ L.length ∧ Hid (ofS X = ofP X ((L.map fun l => ((e : Int), l)).drop j ++ restP (e + 1)))) (fun i => L.length - (intOf i).toNat)
      case atStart => exact ⟨0, rfl, by omega, Lib.hid (by rw [HQ2.out, List.drop_zero])⟩
      case round =>
        obtain ⟨j, rfl, hj, HD⟩ := hrel
        by_cases hjl : j < L.length
        · obtain ⟨b, off, rfl, hbl, hcc⟩ := HC.out j hjl
          obtain ⟨Y, hY⟩ : ∃ X, L[j] = X := ⟨_, rfl⟩
          rw [hY] at hcc
          have hdr : (L.map fun l => ((e : Int), l)).drop j = ((e : Int), Y) :: (L.map fun l => ((e : Int), l)).drop (j + 1) := by
            rw [List.drop_eq_getElem_cons (by rw [List.length_map]; exact hjl), List.getElem_map, hY]
          cases hq : Y.toList == X.toList with
          | true =>
            have HE := Lib.hid (show ofS X = ((e : Int), true) by rw [HD.out, hdr, List.cons_append, ofP]; rw [if_pos hq])
            clear hdr hY
            go_wp2_with fail
            go_ret2
            exact ⟨by rw [HE.out] <;> rfl, hbw2⟩
          | false =>
            have HE := Lib.hid (show ofS X = ofP X ((L.map fun l => ((e : Int), l)).drop (j + 1) ++ restP (e + 1)) by
              rw [HD.out, hdr, List.cons_append, ofP]
              rw [if_neg (by rw [hq]; decide)])
            clear hdr hY
            go_wp2_with fail
            exact ⟨⟨j + 1, by go_num, by omega, HE⟩, by simp [intOf]; omega⟩
        · have HE := Lib.hid (show ofS X = ofP X (restP (e + 1)) by rw [HD.out, List.drop_eq_nil_of_le (by rw [List.length_map]; omega), List.nil_append])
          go_wp2_with fail
          exact ⟨⟨e + 1, by simp, by omega, hbw2, HE⟩, by simp [intOf]; omega⟩
    · have HE := Lib.hid (show ofS X = (0, false) by rw [HQ.out, show e = 6 by omega, restP_end]; rfl)
      go_wp2_with fail
      go_ret2
      exact ⟨by rw [HE.out] <;> rfl, hbw⟩
theorem wk5_1 : ofS (wantS ⟨#[32, 76, 97, 116, 105, 110, 49]⟩) = (3, true) := by kernel_rfl
theorem wk5_2 : ofS (wantS ⟨#[117, 116, 102, 45, 55]⟩) = (0, false) := by kernel_rfl
theorem wk5_3 : namS 5 = ⟨#[105, 115, 111, 45, 56, 56, 53, 57, 45, 49, 53]⟩ := by kernel_rfl
theorem wk5_4 : trimS ⟨#[9, 32, 97, 32]⟩ = ⟨#[97]⟩ := by kernel_rfl
theorem wk5_5 : strOfNums (lowL (nums ⟨#[97, 90, 192]⟩)) = ⟨#[97, 122, 192]⟩ := by kernel_rfl
end Go.Proofs.YthahfoliblgegaaGreatDoor
/- 
  Content-Types in plain terms: what bytes are in, lower case, the reader on lists of numbers. No program in sight.
 -/
namespace Go.Proofs.YthahfoliblgegaaGreatDoor
def signL : List Int := [33, 35, 36, 37, 38, 39, 42, 43, 45, 46, 94, 95, 96, 124, 126]
def isTok (c : Int) : Bool := decide (97 ≤ c ∧ c ≤ 122) || decide (65 ≤ c ∧ c ≤ 90) || decide (48 ≤ c ∧ c ≤ 57) || signL.contains c
def isBl (c : Int) : Bool := decide (c = 32 ∨ c = 9)
def isEsc (c : Int) : Bool := decide (c = 9 ∨ 32 ≤ c ∧ c ≤ 126)
def isQt (c : Int) : Bool := decide ((c = 9 ∨ 32 ≤ c ∧ c ≤ 126) ∧ c ≠ 34 ∧ c ≠ 92 ∨ 128 ≤ c)
/-- a quoted text behind its first quote: what is meant (behind what is gathered), and what stands behind it. -/
def quoA : List Int → List Int → Option (List Int × List Int)
  | _, [] => none
  | acc, [c] => if c = 34 then some (acc, []) else none
  | acc, c :: d :: r => if c = 34 then some (acc, d :: r) else if c = 92 then (if isEsc d then quoA (acc ++ [d]) r else none) else if isQt c then quoA (acc ++ [c]) (d :: r) else none
def valN (l : List Int) : Option (List Int × List Int) :=
  match l with
  | [] => none
  | c :: r => if c = 34 then quoA [] r else if isTok c then some ((c :: r).takeWhile isTok, (c :: r).dropWhile isTok) else none
/-- a parameter: its name and value, and what stands behind it. -/
def parN (l : List Int) : Option ((List Int × List Int) × List Int) :=
  match l.takeWhile isTok, l.dropWhile isTok with
  | [], _ => none
  | _, [] => none
  | a :: az, g :: t => if g ≠ 61 then none else (valN t).map fun vu => ((lowL (a :: az), vu.1), vu.2)
/-- parameters, behind those that are gathered. -/
def parA : Nat → List (List Int × List Int) → List Int → Option (List (List Int × List Int))
  | 0, _, _ => none
  | _ + 1, acc, [] => some acc
  | f + 1, acc, c :: r =>
    if c ≠ 59 then none else
      match r.dropWhile isBl with
      | [] => some acc
      | d :: q =>
        if d = 59 then parA f acc (d :: q) else
          match parN (d :: q) with
          | none => none
          | some (p, u) => parA f (acc ++ [p]) (u.dropWhile isBl)
def parseN (l : List Int) : Option (List Int × List (List Int × List Int)) :=
  let l1 := l.dropWhile isBl
  match l1.takeWhile isTok, l1.dropWhile isTok with
  | [], _ => none
  | _, [] => none
  | a :: az, c :: r =>
    if c ≠ 47 then none else
      match r.takeWhile isTok with
      | [] => none
      | b :: bs => (parA (l.length + 1) [] ((r.dropWhile isTok).dropWhile isBl)).map fun ps => (lowL ((a :: az) ++ 47 :: (b :: bs)), ps)
end Go.Proofs.YthahfoliblgegaaGreatDoor
/- 
  The walks of bytes' kinds: media.kinds, the reference's sign, within; the library's IndexByte by the model's entry.
 -/
namespace Go.Proofs.YthahfoliblgegaaGreatDoor
open Go.RowKit
set_option maxHeartbeats 1000000 in
set_option maxRecDepth 100000 in
theorem lite_IndexByte (s : ByteArray) (c : Int) (w : World) :
    Calls Tryz.prog 136 #[.string s, .int .u8 c] w fun e w' => e = .returned (.int .i64 (Lib.indexByte s.data.toList c.toNat.toUInt8)) ∧ w = w' := by
  go_enter Tryz.func136, Tryz.ntmps136
  go_wp2
  rw [run_callFunc_extern Tryz.func154 (by kernel_rfl) (by kernel_rfl) (by kernel_rfl) (e := Extern.BytealgIndexByte.indexByte) (by kernel_rfl), Lib.run_indexByteString]
  simp only [Result.andThen]
  rw [Oper.upon_value]
  go_wp2
  go_ret
  exact ⟨rfl, rfl⟩
theorem strings_IndexByte (s : ByteArray) (c : Int) (w : World) :
    Calls Tryz.prog 105 #[.string s, .int .u8 c] w fun e w' => e = .returned (.int .i64 (Lib.indexByte s.data.toList c.toNat.toUInt8)) ∧ w = w' := by
  go_enter Tryz.func105, Tryz.ntmps105
  go_wp2_with (go_at_call 136; refine (lite_IndexByte _ _ _).mono ?_; rintro e w' ⟨rfl, rfl⟩)
  go_ret
  exact ⟨rfl, rfl⟩
def signB : ByteArray := ⟨#[33, 35, 36, 37, 38, 39, 42, 43, 45, 46, 94, 95, 96, 124, 126]⟩
def kindsN (c : Int) : Int := (if isTok c then 1 else 0) + (if isBl c then 2 else 0) + (if isQt c then 4 else 0) + (if isEsc c then 8 else 0)
/-- what the code asks of a byte, told apart. -/
def ByteClass (k : Nat) (d i kn : Int) : Prop :=
  (97 ≤ d ∧ d ≤ 122 ∧ 33 ≤ k ∧ k ≤ 126 ∧ k ≠ 34 ∧ k ≠ 92 ∧ kn = 13) ∨ (d < 97 ∧ 48 ≤ k ∧ k ≤ 57 ∧ kn = 13) ∨
  ((d < 97 ∧ k < 48 ∨ d < 97 ∧ 57 < k ∨ 122 < d ∧ 57 < k) ∧ 0 ≤ i ∧ 33 ≤ k ∧ k ≤ 126 ∧ k ≠ 34 ∧ k ≠ 92 ∧ kn = 13) ∨
  ((d < 97 ∧ k < 48 ∨ d < 97 ∧ 57 < k ∨ 122 < d ∧ 57 < k) ∧ i < 0 ∧ 33 ≤ k ∧ k ≤ 126 ∧ k ≠ 34 ∧ k ≠ 92 ∧ kn = 12) ∨
  (i < 0 ∧ (122 < d ∧ 128 ≤ k ∧ kn = 4 ∨ d < 97 ∧ (k = 32 ∨ k = 9) ∧ kn = 14 ∨ (d < 97 ∧ k < 32 ∨ 122 < d ∧ k = 127) ∧ k ≠ 9 ∧ kn = 0 ∨ (d < 97 ∧ k = 34 ∨ 122 < d ∧ k = 92) ∧ kn = 8))
instance (k : Nat) (d i kn : Int) : Decidable (ByteClass k d i kn) := by unfold ByteClass; infer_instance
theorem byteClass_all : ((List.range 256).all fun c => decide (ByteClass c (bits .or .u8 (c : Nat) 32) (Lib.indexByte signB.data.toList (Int.toNat (c : Nat)).toUInt8) (kindsN (c : Nat)))) = true := by decide +kernel
theorem byte_class (c : Nat) (h : c < 256) : ByteClass c (bits .or .u8 (c : Nat) 32) (Lib.indexByte signB.data.toList (Int.toNat (c : Nat)).toUInt8) (kindsN (c : Nat)) :=
  of_decide_eq_true (List.all_eq_true.1 byteClass_all c (List.mem_range.2 h))
theorem sign_IndexByte (k : Nat) (i : Int) (hi : Lib.indexByte signB.data.toList (Int.toNat (k : Nat)).toUInt8 = i) (w : World) :
    Calls Tryz.prog 105 #[.string ⟨#[33, 35, 36, 37, 38, 39, 42, 43, 45, 46, 94, 95, 96, 124, 126]⟩, .int .u8 (k : Int)] w fun e w' => e = .returned (.int .i64 i) ∧ w = w' := by
  have h := strings_IndexByte signB (k : Int) w
  rw [hi] at h
  exact h
set_option maxRecDepth 100000 in
set_option maxHeartbeats 8000000 in
theorem media_kinds (c : Int) (w : World) (h0 : 0 ≤ c) (h1 : c < 256) :
    Calls Tryz.prog 130 #[.int .u8 c] w fun e w' => e = .returned (.int .i64 (kindsN c)) ∧ w = w' := by
  obtain ⟨k, rfl⟩ := Int.eq_ofNat_of_zero_le h0
  have hcl := byte_class k (by omega)
  obtain ⟨d, hd⟩ : ∃ d, bits .or .u8 (k : Int) 32 = d := ⟨_, rfl⟩
  obtain ⟨i, hi⟩ : ∃ i, Lib.indexByte signB.data.toList (Int.toNat (k : Nat)).toUInt8 = i := ⟨_, rfl⟩
  obtain ⟨n, hn⟩ : ∃ n, kindsN (k : Int) = n := ⟨_, rfl⟩
  rw [hd, hi, hn] at hcl
  have HI := Lib.hid hi
  have HN := Lib.hid hn
  clear hi hn
  rcases hcl with ⟨c1, c2, c3, c4, c5, c6, rfl⟩ | ⟨c1, c2, c3, rfl⟩ | ⟨⟨c1, c2⟩ | ⟨c1, c2⟩ | ⟨c1, c2⟩, c3, c4, c5, c6, c7, rfl⟩ | ⟨⟨c1, c2⟩ | ⟨c1, c2⟩ | ⟨c1, c2⟩, c3, c4, c5, c6, c7, rfl⟩ |
    ⟨c3, ⟨c1, c2, rfl⟩ | ⟨c1, c2 | c2, rfl⟩ | ⟨⟨c1, c2⟩ | ⟨c1, c2⟩, c4, rfl⟩ | ⟨⟨c1, c2⟩ | ⟨c1, c2⟩, rfl⟩⟩
  all_goals
    have o1 : bits .or .i64 0 1 = 1 := by decide
    have o2 : bits .or .i64 0 2 = 2 := by decide
    have o3 : bits .or .i64 0 8 = 8 := by decide
    have o4 : bits .or .i64 1 8 = 9 := by decide
    have o5 : bits .or .i64 2 8 = 10 := by decide
    have o6 : bits .or .i64 0 4 = 4 := by decide
    have o7 : bits .or .i64 9 4 = 13 := by decide
    have o8 : bits .or .i64 10 4 = 14 := by decide
    have o9 : bits .or .i64 8 4 = 12 := by decide
    have n1 : bits .and .i64 0 8 = 0 := by decide
    have n2 : bits .and .i64 8 8 = 8 := by decide
    have n3 : bits .and .i64 9 8 = 8 := by decide
    have n4 : bits .and .i64 10 8 = 8 := by decide
    (try have p1 := decide_eq_true (show (97 : Int) ≤ d by omega))
    (try have p1 := decide_eq_false (show ¬ (97 : Int) ≤ d by omega))
    (try have p2 := decide_eq_true (show d ≤ (122 : Int) by omega))
    (try have p2 := decide_eq_false (show ¬ d ≤ (122 : Int) by omega))
    (try have p3 := decide_eq_true (show (48 : Int) ≤ (k : Int) by omega))
    (try have p3 := decide_eq_false (show ¬ (48 : Int) ≤ (k : Int) by omega))
    (try have p4 := decide_eq_true (show (k : Int) ≤ (57 : Int) by omega))
    (try have p4 := decide_eq_false (show ¬ (k : Int) ≤ (57 : Int) by omega))
    (try have p5 := decide_eq_true (show (0 : Int) ≤ i by omega))
    (try have p5 := decide_eq_false (show ¬ (0 : Int) ≤ i by omega))
    (try have p6 : ((k : Int) == 32) = false := by simp; omega)
    (try have p6 : ((k : Int) == 32) = true := by simp; omega)
    (try have p7 : ((k : Int) == 9) = true := by simp; omega)
    (try have p10 : ((k : Int) != 34) = false := by simp; omega)
    (try have p11 : ((k : Int) != 92) = false := by simp; omega)
    (try have p7 : ((k : Int) == 9) = false := by simp; omega)
    (try have p8 := decide_eq_true (show (32 : Int) ≤ (k : Int) by omega))
    (try have p8 := decide_eq_false (show ¬ (32 : Int) ≤ (k : Int) by omega))
    (try have p9 := decide_eq_true (show (k : Int) ≤ (126 : Int) by omega))
    (try have p9 := decide_eq_false (show ¬ (k : Int) ≤ (126 : Int) by omega))
    (try have p10 : ((k : Int) != 34) = true := by simp; omega)
    (try have p11 : ((k : Int) != 92) = true := by simp; omega)
    (try have p12 := decide_eq_true (show (128 : Int) ≤ (k : Int) by omega))
    (try have p12 := decide_eq_false (show ¬ (128 : Int) ≤ (k : Int) by omega))
    clear c2
    go_enter Tryz.func130, Tryz.ntmps130
    go_wp2_with (go_at_call 105; refine (sign_IndexByte k i HI.out _).mono ?_; rintro e w' ⟨rfl, rfl⟩)
    go_ret
    exact ⟨by rw [HN.out]; rfl, rfl⟩
end Go.Proofs.YthahfoliblgegaaGreatDoor
/- 
  The walks of the reference's sign, within, blanks, token.
 -/
namespace Go.Proofs.YthahfoliblgegaaGreatDoor
open Go.RowKit
set_option maxRecDepth 100000 in
set_option maxHeartbeats 2000000 in
theorem ref06_within (c : Int) (w : World) :
    Calls Tryz.prog 138 #[.int .u8 c] w fun e w' => e = .returned (.bool (isQt c)) ∧ w = w' := by
  obtain ⟨q, hq⟩ : ∃ q, isQt c = q := ⟨_, rfl⟩
  have hq' := hq
  unfold isQt at hq'
  have HQ := Lib.hid hq
  clear hq
  by_cases e1 : c = 9
  · have c1 : (c == 9) = true := by simp [e1]
    have hv := HQ.out
    rw [decide_eq_true (by omega)] at hq'
    subst hq'
    clear hv e1
    go_enter Tryz.func138, Tryz.ntmps138
    go_wp2
    go_ret
    exact ⟨by rw [HQ.out]; rfl, rfl⟩
  · have c1 : (c == 9) = false := by simpa using e1
    by_cases e2 : 128 ≤ c
    · have c2 : decide (c ≤ 126) = false := decide_eq_false (by omega)
      rw [decide_eq_true (by omega)] at hq'
      subst hq'
      clear e1
      go_enter Tryz.func138, Tryz.ntmps138
      go_wp2
      go_ret
      exact ⟨by rw [HQ.out]; rfl, rfl⟩
    · have c2 : decide (128 ≤ c) = false := decide_eq_false e2
      by_cases e3 : 32 ≤ c ∧ c ≤ 126
      · by_cases e4 : c = 34
        · have c4 : (c != 34) = false := by simp [e4]
          rw [decide_eq_false (by omega)] at hq'
          subst hq'
          obtain ⟨e5, e6⟩ := e3
          clear e1 e4
          go_enter Tryz.func138, Tryz.ntmps138
          go_wp2
          go_ret
          exact ⟨by rw [HQ.out]; rfl, rfl⟩
        · have c4 : (c != 34) = true := by simpa using e4
          by_cases e7 : c = 92
          · have c7 : (c != 92) = false := by simp [e7]
            rw [decide_eq_false (by omega)] at hq'
            subst hq'
            obtain ⟨e5, e6⟩ := e3
            clear e1 e4 e7
            go_enter Tryz.func138, Tryz.ntmps138
            go_wp2
            go_ret
            exact ⟨by rw [HQ.out]; rfl, rfl⟩
          · have c7 : (c != 92) = true := by simpa using e7
            rw [decide_eq_true (by omega)] at hq'
            subst hq'
            obtain ⟨e5, e6⟩ := e3
            clear e1 e4 e7
            go_enter Tryz.func138, Tryz.ntmps138
            go_wp2
            go_ret
            exact ⟨by rw [HQ.out]; rfl, rfl⟩
      · rw [decide_eq_false (by omega)] at hq'
        subst hq'
        by_cases e5 : 32 ≤ c
        · have e6 : decide (c ≤ 126) = false := decide_eq_false (by omega)
          clear e1 e3
          go_enter Tryz.func138, Tryz.ntmps138
          go_wp2
          go_ret
          exact ⟨by rw [HQ.out]; rfl, rfl⟩
        · clear e1 e3
          go_enter Tryz.func138, Tryz.ntmps138
          go_wp2
          go_ret
          exact ⟨by rw [HQ.out]; rfl, rfl⟩
theorem signL_at (k : Nat) (h : k < 15) : ∃ y : Nat, signB[k]'(by simpa [signB, ByteArray.size] using h) = y.toUInt8 ∧ y < 256 ∧ signL[k]'(by simpa [signL] using h) = (y : Int) := by
  have : k = 0 ∨ k = 1 ∨ k = 2 ∨ k = 3 ∨ k = 4 ∨ k = 5 ∨ k = 6 ∨ k = 7 ∨ k = 8 ∨ k = 9 ∨ k = 10 ∨ k = 11 ∨ k = 12 ∨ k = 13 ∨ k = 14 := by omega
  rcases this with rfl | rfl | rfl | rfl | rfl | rfl | rfl | rfl | rfl | rfl | rfl | rfl | rfl | rfl | rfl <;> exact ⟨_, rfl, by decide, rfl⟩
theorem take_snoc_sign (k : Nat) (h : k < 15) : signL.take (k + 1) = signL.take k ++ [signL[k]'(by simpa [signL] using h)] := by
  rw [List.take_succ_eq_append_getElem]
set_option maxRecDepth 100000 in
set_option maxHeartbeats 4000000 in
theorem ref06_sign (c : Int) (w : World) :
    Calls Tryz.prog 107 #[.int .u8 c] w fun e w' => e = .returned (.bool (isTok c)) ∧ w = w' := by
  by_cases ha : 97 ≤ c ∧ c ≤ 122
  · have HT := Lib.hid (show isTok c = true by unfold isTok; rw [decide_eq_true ha]; rfl)
    obtain ⟨a1, a2⟩ := ha
    have p1 : decide (c ≤ 90) = false := decide_eq_false (by omega)
    go_enter Tryz.func107, Tryz.ntmps107
    go_wp2
    go_ret
    exact ⟨by rw [HT.out]; rfl, rfl⟩
  · by_cases hb : 65 ≤ c ∧ c ≤ 90
    · have HT := Lib.hid (show isTok c = true by unfold isTok; rw [decide_eq_true hb]; simp)
      obtain ⟨a1, a2⟩ := hb
      clear ha
      go_enter Tryz.func107, Tryz.ntmps107
      go_wp2
      go_ret
      exact ⟨by rw [HT.out]; rfl, rfl⟩
    · by_cases hd : 48 ≤ c ∧ c ≤ 57
      · have HT := Lib.hid (show isTok c = true by unfold isTok; rw [decide_eq_true hd]; simp)
        obtain ⟨a1, a2⟩ := hd
        have p1 : decide (65 ≤ c) = false := decide_eq_false (by omega)
        have p2 : decide (97 ≤ c) = false := decide_eq_false (by omega)
        clear ha hb
        go_enter Tryz.func107, Tryz.ntmps107
        go_wp2
        go_ret
        exact ⟨by rw [HT.out]; rfl, rfl⟩
      · have HT := Lib.hid (show isTok c = signL.contains c by unfold isTok; rw [decide_eq_false ha, decide_eq_false hb, decide_eq_false hd]; rfl)
        have hs : (c < 48) ∨ (57 < c ∧ c < 65) ∨ (90 < c ∧ c < 97) ∨ 122 < c := by omega
        clear ha hb hd
        go_enter Tryz.func107, Tryz.ntmps107
        rcases hs with hs | ⟨hs, hs2⟩ | ⟨hs, hs2⟩ | hs
        all_goals
          (try have p1 := decide_eq_true (show (65 : Int) ≤ c by omega))
          (try have p1 := decide_eq_false (show ¬ (65 : Int) ≤ c by omega))
          (try have p2 := decide_eq_true (show c ≤ (90 : Int) by omega))
          (try have p2 := decide_eq_false (show ¬ c ≤ (90 : Int) by omega))
          (try have p3 := decide_eq_true (show (97 : Int) ≤ c by omega))
          (try have p3 := decide_eq_false (show ¬ (97 : Int) ≤ c by omega))
          (try have p4 := decide_eq_true (show c ≤ (122 : Int) by omega))
          (try have p4 := decide_eq_false (show ¬ c ≤ (122 : Int) by omega))
          (try have p5 := decide_eq_true (show (48 : Int) ≤ c by omega))
          (try have p5 := decide_eq_false (show ¬ (48 : Int) ≤ c by omega))
          (try have p6 := decide_eq_true (show c ≤ (57 : Int) by omega))
          (try have p6 := decide_eq_false (show ¬ c ≤ (57 : Int) by omega))
          go_wp2
          go_loop [3] (fun i => ∃ k : Nat, i = .int .i64 k ∧ k ≤ 15 ∧ ∀ y ∈ signL.take k, y ≠ c) (fun i => 15 - (intOf i).toNat)
          case atStart => exact ⟨0, rfl, by omega, fun y hy => by simp at hy⟩
          case round =>
            obtain ⟨k, rfl, hk, hno⟩ := hrel
            by_cases hlt : k < 15
            · obtain ⟨y, g1, g2, g3⟩ := signL_at k hlt
              have hidx := index_str ⟨#[33, 35, 36, 37, 38, 39, 42, 43, 45, 46, 94, 95, 96, 124, 126]⟩ k (by simpa [ByteArray.size] using hlt) (y : Int) k (by have g4 := g1; unfold signB at g4; rw [g4]; simp; omega) rfl
              have hsn : signL.take (k + 1) = signL.take k ++ [(y : Int)] := by rw [take_snoc_sign k hlt, g3]
              by_cases hyc : (y : Int) = c
              · have HF := Lib.hid (show signL.contains c = true by rw [List.contains_iff_mem, ← hyc, ← g3]; exact List.getElem_mem _)
                have hq : ((y : Int) == c) = true := by simpa using hyc
                clear g1 g3 hsn hno hyc
                go_wp2
                go_ret
                exact ⟨by rw [HT.out, HF.out]; rfl, rfl⟩
              · have hn2 : ∀ z ∈ signL.take (k + 1), z ≠ c := by
                  intro z hz
                  rw [hsn, List.mem_append, List.mem_singleton] at hz
                  rcases hz with hz | rfl
                  · exact hno z hz
                  · exact hyc
                have HN := Lib.hid hn2
                have hq : ((y : Int) == c) = false := by simpa using hyc
                clear g1 g3 hsn hno hyc hn2
                go_wp2
                exact ⟨⟨k + 1, by go_num, by omega, HN.out⟩, by simp [intOf]; omega⟩
            · obtain rfl : k = 15 := by omega
              have HF := Lib.hid (show signL.contains c = false by
                cases hc : signL.contains c with
                | false => rfl
                | true => exact absurd rfl (hno c (List.contains_iff_mem.1 hc)))
              clear hno
              go_wp2
              go_ret
              exact ⟨by rw [HT.out, HF.out]; rfl, rfl⟩
end Go.Proofs.YthahfoliblgegaaGreatDoor
/- 
  Spans: how many bytes from a place on are of a kind; parts of a text as numbers. No program in sight.
 -/
namespace Go.Proofs.YthahfoliblgegaaGreatDoor
def spanN (P : Int → Bool) (s : ByteArray) (k : Nat) : Nat := (((nums s).drop k).takeWhile P).length
theorem spanN_yes {P : Int → Bool} {s : ByteArray} {k : Nat} (h : k < s.size) (hp : P (s[k].toNat : Int) = true) : spanN P s k = spanN P s (k + 1) + 1 := by
  unfold spanN
  rw [nums_drop s k h, List.takeWhile_cons, hp]
  rfl
theorem spanN_no {P : Int → Bool} {s : ByteArray} {k : Nat} (h : k < s.size) (hp : P (s[k].toNat : Int) = false) : spanN P s k = 0 := by
  unfold spanN
  rw [nums_drop s k h, List.takeWhile_cons, hp]
  rfl
theorem spanN_end {P : Int → Bool} {s : ByteArray} {k : Nat} (h : s.size ≤ k) : spanN P s k = 0 := by
  unfold spanN
  rw [nums_drop_end s k h]
  rfl
theorem takeWhile_len_le {α : Type} (P : α → Bool) : ∀ l : List α, (l.takeWhile P).length ≤ l.length
  | [] => Nat.le_refl _
  | a :: l => by
    rw [List.takeWhile_cons]
    split
    · have := takeWhile_len_le P l
      simp only [List.length_cons]
      omega
    · simp
theorem drop_takeWhile {α : Type} (P : α → Bool) : ∀ l : List α, l.drop (l.takeWhile P).length = l.dropWhile P
  | [] => rfl
  | a :: l => by
    rw [List.takeWhile_cons, List.dropWhile_cons]
    cases P a
    · rfl
    · exact drop_takeWhile P l
theorem take_takeWhile {α : Type} (P : α → Bool) : ∀ l : List α, l.take (l.takeWhile P).length = l.takeWhile P
  | [] => rfl
  | a :: l => by
    rw [List.takeWhile_cons]
    cases P a
    · rfl
    · simp only [if_true, List.length_cons, List.take_succ_cons, take_takeWhile P l]
theorem spanN_le (P : Int → Bool) (s : ByteArray) (k : Nat) (h : k ≤ s.size) : k + spanN P s k ≤ s.size := by
  have h1 := takeWhile_len_le P ((nums s).drop k)
  rw [List.length_drop, nums_length] at h1
  unfold spanN
  omega
theorem drop_span (P : Int → Bool) (s : ByteArray) (k : Nat) : (nums s).drop (k + spanN P s k) = ((nums s).drop k).dropWhile P := by
  unfold spanN
  rw [← List.drop_drop, drop_takeWhile]
theorem nums_size (s : ByteArray) : s.size = (nums s).length := (nums_length s).symm
theorem nums_extractM (s : ByteArray) (a b : Nat) : nums (s.extract a b) = ((nums s).drop a).take (b - a) := by
  unfold nums
  rw [ByteArray.data_extract, Array.toList_extract, List.extract_eq_take_drop, List.map_take, List.map_drop]
theorem extract_nums (s : ByteArray) (a b : Nat) : s.extract a b = strOfNums (((nums s).drop a).take (b - a)) := by
  rw [← nums_extractM, strOfNums_nums]
theorem nums_extract_span (P : Int → Bool) (s : ByteArray) (k : Nat) : nums (s.extract k (k + spanN P s k)) = ((nums s).drop k).takeWhile P := by
  rw [nums_extractM, Nat.add_sub_cancel_left]
  unfold spanN
  rw [take_takeWhile]
theorem extract_span (P : Int → Bool) (s : ByteArray) (k : Nat) : s.extract k (k + spanN P s k) = strOfNums (((nums s).drop k).takeWhile P) := by
  rw [extract_nums, Nat.add_sub_cancel_left]
  unfold spanN
  rw [take_takeWhile]
theorem quoA_nil (acc : List Int) : quoA acc [] = none := rfl
theorem quoA_quote (acc l : List Int) : quoA acc (34 :: l) = some (acc, l) := by cases l <;> rfl
theorem quoA_esc {d : Int} (h : isEsc d = true) (acc l : List Int) : quoA acc (92 :: d :: l) = quoA (acc ++ [d]) l := by
  rw [quoA, if_neg (by decide), if_pos rfl, if_pos h]
theorem quoA_esc_no {d : Int} (h : isEsc d = false) (acc l : List Int) : quoA acc (92 :: d :: l) = none := by
  rw [quoA, if_neg (by decide), if_pos rfl, if_neg (by rw [h]; decide)]
theorem quoA_esc_end (acc : List Int) : quoA acc [92] = none := rfl
theorem isQt_ne {c : Int} (h : isQt c = true) : c ≠ 34 ∧ c ≠ 92 := by
  have := of_decide_eq_true h
  omega
theorem quoA_in {c : Int} (h : isQt c = true) (acc l : List Int) : quoA acc (c :: l) = quoA (acc ++ [c]) l := by
  obtain ⟨h1, h2⟩ := isQt_ne h
  cases l with
  | nil => rw [quoA_nil]; exact if_neg h1
  | cons d r => rw [quoA, if_neg h1, if_neg h2, if_pos h]
theorem quoA_out {c : Int} (h : isQt c = false) (h1 : c ≠ 34) (h2 : c ≠ 92) (acc l : List Int) : quoA acc (c :: l) = none := by
  cases l with
  | nil => exact if_neg h1
  | cons d r => rw [quoA, if_neg h1, if_neg h2, if_neg (by rw [h]; decide)]
def quoS (R : Option (List Int × List Int)) : ByteArray := match R with | none => ⟨#[]⟩ | some (v, _) => strOfNums v
def quoE (s : ByteArray) (R : Option (List Int × List Int)) : Nat := match R with | none => 0 | some (_, r) => s.size - r.length
theorem quoE_drop (s : ByteArray) (v : List Int) (k : Nat) (h : k ≤ s.size) : quoE s (some (v, (nums s).drop k)) = k := by
  unfold quoE
  simp only [List.length_drop, nums_length]
  omega
theorem dropWhile_len {α : Type} (P : α → Bool) (l : List α) : (l.dropWhile P).length ≤ l.length := by
  rw [← drop_takeWhile, List.length_drop]
  omega
theorem quoA_len : ∀ (n : Nat) (acc l v u : List Int), l.length ≤ n → quoA acc l = some (v, u) → u.length ≤ l.length
  | _, acc, [], v, u, _, h => by rw [quoA_nil] at h; cases h
  | 0, acc, c :: r, v, u, hn, _ => by simp at hn
  | n + 1, acc, c :: r, v, u, hn, h => by
    simp only [List.length_cons] at hn ⊢
    by_cases e1 : c = 34
    · subst e1
      rw [quoA_quote] at h
      cases h
      omega
    · by_cases e2 : c = 92
      · subst e2
        cases r with
        | nil => cases h
        | cons d r =>
          simp only [List.length_cons] at hn ⊢
          cases he : isEsc d with
          | false => rw [quoA_esc_no he] at h; cases h
          | true =>
            rw [quoA_esc he] at h
            have := quoA_len n _ r v u (by omega) h
            omega
      · cases hi : isQt c with
        | false => rw [quoA_out hi e1 e2] at h; cases h
        | true =>
          rw [quoA_in hi] at h
          have := quoA_len n _ r v u (by omega) h
          omega
theorem valN_len {l v u : List Int} (h : valN l = some (v, u)) : u.length ≤ l.length := by
  cases l with
  | nil => cases h
  | cons c r =>
    unfold valN at h
    simp only at h
    split at h
    · have := quoA_len _ _ _ _ _ (Nat.le_refl _) h
      simp only [List.length_cons]
      omega
    · split at h
      · injection h with h
        injection h with h1 h2
        rw [← h2]
        exact dropWhile_len _ _
      · cases h
theorem parN_len {l u : List Int} {p : List Int × List Int} (h : parN l = some (p, u)) : u.length < l.length := by
  unfold parN at h
  split at h
  · cases h
  · cases h
  · rename_i a az g t h1 h2
    split at h
    · cases h
    · have h3 := drop_takeWhile isTok l
      rw [h1, h2] at h3
      have h4 := congrArg List.length h3
      simp only [List.length_drop, List.length_cons] at h4
      cases hv : valN t with
      | none => rw [hv] at h; cases h
      | some vu =>
        obtain ⟨v, u'⟩ := vu
        rw [hv] at h
        have h5 := valN_len hv
        simp only [Option.map_some, Option.some.injEq, Prod.mk.injEq] at h
        rw [← h.2]
        omega
theorem parA_fuel : ∀ (f g : Nat) (acc : List (List Int × List Int)) (l : List Int), l.length < f → l.length < g → parA f acc l = parA g acc l
  | 0, _, _, _, h, _ => by omega
  | _ + 1, 0, _, _, _, h => by omega
  | f + 1, g + 1, acc, [], _, _ => rfl
  | f + 1, g + 1, acc, c :: r, hf, hg => by
    simp only [List.length_cons] at hf hg
    unfold parA
    split
    · rfl
    · have hd := dropWhile_len isBl r
      split
      · rfl
      · rename_i d q hq
        rw [hq] at hd
        split
        · exact parA_fuel f g acc (d :: q) (by omega) (by omega)
        · split
          · rfl
          · rename_i p u hp
            have h1 := parN_len hp
            have h2 := dropWhile_len isBl u
            exact parA_fuel f g _ _ (by omega) (by omega)
/-- parameters, with fuel enough. -/
def parW (acc : List (List Int × List Int)) (l : List Int) : Option (List (List Int × List Int)) := parA (l.length + 1) acc l
theorem parW_nil (acc : List (List Int × List Int)) : parW acc [] = some acc := rfl
theorem parW_no {c : Int} (h : c ≠ 59) (acc : List (List Int × List Int)) (r : List Int) : parW acc (c :: r) = none := by
  unfold parW parA
  rw [if_pos h]
theorem parW_end (acc : List (List Int × List Int)) (r : List Int) (h : r.dropWhile isBl = []) : parW acc (59 :: r) = some acc := by
  unfold parW parA
  rw [if_neg (by decide), h]
theorem parW_semi (acc : List (List Int × List Int)) (r q : List Int) (h : r.dropWhile isBl = 59 :: q) : parW acc (59 :: r) = parW acc (59 :: q) := by
  have hd := dropWhile_len isBl r
  rw [h] at hd
  show parA (r.length + 1 + 1) acc (59 :: r) = _
  rw [parA, if_neg (by decide), h]
  simp only [if_true]
  exact parA_fuel _ _ _ _ (by omega) (by omega)
theorem parW_bad (acc : List (List Int × List Int)) (r q : List Int) (d : Int) (h : r.dropWhile isBl = d :: q) (hd : d ≠ 59) (hp : parN (d :: q) = none) : parW acc (59 :: r) = none := by
  show parA (r.length + 1 + 1) acc (59 :: r) = _
  rw [parA, if_neg (by decide), h]
  simp only
  rw [if_neg hd, hp]
theorem parW_par (acc : List (List Int × List Int)) (r q u : List Int) (d : Int) (p : List Int × List Int) (h : r.dropWhile isBl = d :: q) (hd : d ≠ 59) (hp : parN (d :: q) = some (p, u)) :
    parW acc (59 :: r) = parW (acc ++ [p]) (u.dropWhile isBl) := by
  have hl := dropWhile_len isBl r
  rw [h] at hl
  have h1 := parN_len hp
  have h2 := dropWhile_len isBl u
  show parA (r.length + 1 + 1) acc (59 :: r) = _
  rw [parA, if_neg (by decide), h]
  simp only
  rw [if_neg hd, hp]
  exact parA_fuel _ _ _ _ (by omega) (by omega)
theorem parN_no {l : List Int} (h : l.takeWhile isTok = []) : parN l = none := by unfold parN; rw [h]
theorem parN_end {l : List Int} (h : l.dropWhile isTok = []) : parN l = none := by
  unfold parN
  rw [h]
  cases l.takeWhile isTok <;> rfl
theorem parN_other {l t : List Int} {g : Int} (h : l.dropWhile isTok = g :: t) (hg : g ≠ 61) : parN l = none := by
  unfold parN
  rw [h]
  cases l.takeWhile isTok with
  | nil => rfl
  | cons a az => exact if_pos hg
theorem parN_eq {l t : List Int} (h0 : l.takeWhile isTok ≠ []) (h : l.dropWhile isTok = 61 :: t) : parN l = (valN t).map fun vu => ((lowL (l.takeWhile isTok), vu.1), vu.2) := by
  unfold parN
  rw [h]
  cases hl : l.takeWhile isTok with
  | nil => exact absurd hl h0
  | cons a az => exact if_neg (by decide)
theorem valN_quote (r : List Int) : valN (34 :: r) = quoA [] r := rfl
theorem valN_tok {l : List Int} (h : l.head? ≠ some 34) : valN l = if l.takeWhile isTok = [] then none else some (l.takeWhile isTok, l.dropWhile isTok) := by
  cases l with
  | nil => rfl
  | cons c r =>
    have hc : c ≠ 34 := fun e => h (by rw [e]; rfl)
    unfold valN
    simp only
    rw [if_neg hc]
    cases hb : isTok c with
    | true => rw [if_pos rfl, if_neg (by rw [List.takeWhile_cons, hb]; simp)]
    | false => rw [List.takeWhile_cons, hb]; rfl
theorem span_zero {P : Int → Bool} {s : ByteArray} {k : Nat} : spanN P s k = 0 ↔ ((nums s).drop k).takeWhile P = [] := by
  unfold spanN
  exact List.length_eq_zero_iff
end Go.Proofs.YthahfoliblgegaaGreatDoor
/- 
  The walks of the reference's blanks and token; media's scanner: run, token, blanks, is.
 -/
namespace Go.Proofs.YthahfoliblgegaaGreatDoor
open Go.RowKit
set_option maxRecDepth 100000 in
set_option maxHeartbeats 2000000 in
theorem ref06_blanks (s : ByteArray) (k : Nat) (w : World) (hk0 : k ≤ s.size) (hs : s.size ≤ 1099511627776) :
    Calls Tryz.prog 60 #[.string s, .int .i64 k] w fun e w' => e = .returned (.int .i64 ((k + spanN isBl s k : Nat) : Int)) ∧ w = w' := by
  obtain ⟨E, hE⟩ : ∃ E, k + spanN isBl s k = E := ⟨_, rfl⟩
  rw [hE]
  have HE := Lib.hid hE
  clear hE
  go_enter Tryz.func60, Tryz.ntmps60
  go_wp2
  go_loop [1] (fun i => ∃ j : Nat, i = .int .i64 j ∧ j ≤ s.size ∧ j + spanN isBl s j = E) (fun i => s.size - (intOf i).toNat)
  case atStart => exact ⟨k, rfl, hk0, HE.out⟩
  case round =>
    obtain ⟨j, rfl, hj, hsp⟩ := hrel
    by_cases hlt : j < s.size
    · obtain ⟨c, hc⟩ : ∃ c, s[j].toNat = c := ⟨_, rfl⟩
      have hidx := index_str s j hlt (c : Int) j (by rw [hc]) rfl
      cases hb : isBl (c : Int) with
      | false =>
        rw [spanN_no hlt (by rw [hc]; exact hb)] at hsp
        obtain rfl : j = E := by omega
        have q1 : ((c : Int) == 32) = false := by unfold isBl at hb; simp at hb ⊢; omega
        have q2 : ((c : Int) == 9) = false := by unfold isBl at hb; simp at hb ⊢; omega
        clear hb hc
        go_wp2
        go_ret
        exact ⟨rfl, rfl⟩
      | true =>
        rw [spanN_yes hlt (by rw [hc]; exact hb)] at hsp
        have HS := Lib.hid hsp
        by_cases e1 : (c : Int) = 32
        · have q1 : ((c : Int) == 32) = true := by simpa using e1
          clear hb hc e1 hsp
          go_wp2
          exact ⟨⟨j + 1, by go_num, by omega, by have := HS.out; omega⟩, by simp [intOf]; omega⟩
        · have q1 : ((c : Int) == 32) = false := by simpa using e1
          have q2 : ((c : Int) == 9) = true := by unfold isBl at hb; simp at hb ⊢; omega
          clear hb hc e1 hsp
          go_wp2
          exact ⟨⟨j + 1, by go_num, by omega, by have := HS.out; omega⟩, by simp [intOf]; omega⟩
    · rw [spanN_end (by omega)] at hsp
      obtain rfl : j = E := by omega
      go_wp2
      go_ret
      exact ⟨rfl, rfl⟩
set_option maxRecDepth 100000 in
set_option maxHeartbeats 2000000 in
theorem ref06_token (s : ByteArray) (k : Nat) (w : World) (hk0 : k ≤ s.size) (hs : s.size ≤ 1099511627776) :
    Calls Tryz.prog 61 #[.string s, .int .i64 k] w fun e w' => e = .returned (.int .i64 ((k + spanN isTok s k : Nat) : Int)) ∧ w = w' := by
  obtain ⟨E, hE⟩ : ∃ E, k + spanN isTok s k = E := ⟨_, rfl⟩
  rw [hE]
  have HE := Lib.hid hE
  clear hE
  go_enter Tryz.func61, Tryz.ntmps61
  go_wp2
  go_loop [1] (fun i => ∃ j : Nat, i = .int .i64 j ∧ j ≤ s.size ∧ j + spanN isTok s j = E) (fun i => s.size - (intOf i).toNat)
  case atStart => exact ⟨k, rfl, hk0, HE.out⟩
  case round =>
    obtain ⟨j, rfl, hj, hsp⟩ := hrel
    by_cases hlt : j < s.size
    · obtain ⟨c, hc⟩ : ∃ c, s[j].toNat = c := ⟨_, rfl⟩
      have hidx := index_str s j hlt (c : Int) j (by rw [hc]) rfl
      cases hb : isTok (c : Int) with
      | false =>
        rw [spanN_no hlt (by rw [hc]; exact hb)] at hsp
        obtain rfl : j = E := by omega
        have HB := Lib.hid hb
        clear hb hc
        go_wp2_with (go_at_call 107; refine (ref06_sign _ _).mono ?_; rw [HB.out]; rintro e w' ⟨rfl, rfl⟩)
        go_ret
        exact ⟨rfl, rfl⟩
      | true =>
        rw [spanN_yes hlt (by rw [hc]; exact hb)] at hsp
        have HS := Lib.hid hsp
        have HB := Lib.hid hb
        clear hb hc hsp
        go_wp2_with (go_at_call 107; refine (ref06_sign _ _).mono ?_; rw [HB.out]; rintro e w' ⟨rfl, rfl⟩)
        exact ⟨⟨j + 1, by go_num, by omega, by have := HS.out; omega⟩, by simp [intOf]; omega⟩
    · rw [spanN_end (by omega)] at hsp
      obtain rfl : j = E := by omega
      go_wp2_with fail
      go_ret
      exact ⟨rfl, rfl⟩
end Go.Proofs.YthahfoliblgegaaGreatDoor
/- 
  The walks of media's scanner: run, token, blanks, is.
 -/
namespace Go.Proofs.YthahfoliblgegaaGreatDoor
open Go.RowKit
/-- a scanner of the text s lies in block p, and has read k bytes. -/
def ScanAt (w : World) (p : Nat) (s : ByteArray) (k : Nat) : Prop := ∃ T, w.heap[p]? = some (.cells #[.string s, .int .i64 k] T (0, 0))
theorem ScanAt.text {w : World} {p : Nat} {s : ByteArray} {k : Nat} (h : ScanAt w p s k) : w.cell? ⟨p, 0, none⟩ = some (.string s) := by
  obtain ⟨T, h⟩ := h
  simp [World.cell?, h]
theorem ScanAt.place {w : World} {p : Nat} {s : ByteArray} {k : Nat} (h : ScanAt w p s k) : w.cell? ⟨p, 1, none⟩ = some (.int .i64 k) := by
  obtain ⟨T, h⟩ := h
  simp [World.cell?, h]
theorem ScanAt.free {w : World} {p : Nat} {s : ByteArray} {k : Nat} (h : ScanAt w p s k) : w.frozen? ⟨p, 1, none⟩ = false := by
  obtain ⟨T, h⟩ := h
  simp [World.frozen?, h]
theorem ScanAt.step {w : World} {p : Nat} {s : ByteArray} {k : Nat} (h : ScanAt w p s k) (j : Nat) : ScanAt (w.setCell ⟨p, 1, none⟩ (.int .i64 j)) p s j := by
  obtain ⟨T, h⟩ := h
  exact ⟨T, by rw [heap_setCell_same w p 1 _ T _ h]; rfl⟩
theorem ScanAt.drewN {w : World} {p : Nat} {s : ByteArray} {k : Nat} (h : ScanAt w p s k) (n : Nat) : ScanAt (w.drewN n) p s k := h
theorem ScanAt.below {w w' : World} {p : Nat} {s : ByteArray} {k : Nat} (h : ScanAt w p s k) {B : Nat} (hb : Below B w w') (hp : p < B) : ScanAt w' p s k := by
  obtain ⟨T, h⟩ := h
  exact ⟨T, (hb.block p hp).trans h⟩
theorem ScanAt.lt {w : World} {p : Nat} {s : ByteArray} {k : Nat} (h : ScanAt w p s k) : p < w.heap.size := by
  obtain ⟨T, h⟩ := h
  exact (Array.getElem?_eq_some_iff.1 h).1
/-- nothing but the scanner's block is changed; nothing is dropped. -/
theorem gr_refl (w : World) (row : Option Nat) : w.grownBy w row := ⟨rfl, rfl, rfl, Nat.le_refl _, fun _ _ _ => rfl⟩
theorem gr_trans {a w w' : World} {row : Option Nat} (h : a.grownBy w row) (k : w.grownBy w' row) : a.grownBy w' row :=
  ⟨k.os.trans h.os, k.tape.trans h.tape, k.output.trans h.output, Nat.le_trans h.size k.size, fun b hb hne => (k.block b (Nat.lt_of_lt_of_le hb h.size) hne).trans (h.block b hb hne)⟩
theorem gr_dn {a w : World} {row : Option Nat} (h : a.grownBy w row) (n : Nat) : a.grownBy (w.drewN n) row := ⟨h.os, h.tape, h.output, h.size, h.block⟩
theorem gr_set {a w : World} {p : Nat} (h : a.grownBy w (some p)) (i : Nat) (v : Value) : a.grownBy (w.setCell ⟨p, i, none⟩ v) (some p) :=
  gr_trans h ⟨rfl, rfl, rfl, by simp [World.setCell], fun b _ hne => Below.heap_setCell w ⟨p, i, none⟩ v b (fun e => hne (by rw [e]))⟩
theorem gr_below {a w w' : World} {row : Option Nat} (h : a.grownBy w row) (hb : Below w.heap.size w w') : a.grownBy w' row :=
  gr_trans h ⟨hb.os, hb.tape, hb.output, hb.size, fun b hb' _ => hb.block b hb'⟩
theorem gr_of_below {w w' : World} (row : Option Nat) (hb : Below w.heap.size w w') : w.grownBy w' row := gr_below (gr_refl w row) hb
theorem kinds_all : ((List.range 256).all fun c => ((bits .and .i64 (kindsN (c : Nat)) 1 != 0) == isTok (c : Nat)) && ((bits .and .i64 (kindsN (c : Nat)) 2 != 0) == isBl (c : Nat)) && ((bits .and .i64 (kindsN (c : Nat)) 4 != 0) == isQt (c : Nat)) && ((bits .and .i64 (kindsN (c : Nat)) 8 != 0) == isEsc (c : Nat))) = true := by decide +kernel
theorem kinds_and (c : Nat) (h : c < 256) : (bits .and .i64 (kindsN (c : Nat)) 1 != 0) = isTok (c : Nat) ∧ (bits .and .i64 (kindsN (c : Nat)) 2 != 0) = isBl (c : Nat) ∧ (bits .and .i64 (kindsN (c : Nat)) 4 != 0) = isQt (c : Nat) ∧ (bits .and .i64 (kindsN (c : Nat)) 8 != 0) = isEsc (c : Nat) := by
  have := List.all_eq_true.1 kinds_all c (List.mem_range.2 h)
  simpa [Bool.and_eq_true, beq_iff_eq, and_assoc] using this
theorem kinds_quiet (c : Nat) (h : c < 256) (n : Int) (hn : kindsN c = n) (w : World) :
    Calls Tryz.prog 130 #[.int .u8 c] w fun e w' => e = .returned (.int .i64 n) ∧ w' = w :=
  (media_kinds c w (by omega) (by omega)).mono fun _ _ ⟨a, b⟩ => ⟨by rw [a, hn], b.symm⟩
def placeOf (w : World) (p : Nat) : Nat := match w.cell? ⟨p, 1, none⟩ with | some (.int _ k) => k.toNat | _ => 0
theorem placeOf_at {w : World} {p : Nat} {s : ByteArray} {k : Nat} (h : ScanAt w p s k) : placeOf w p = k := by unfold placeOf; rw [h.place]; rfl
set_option maxRecDepth 100000 in
set_option maxHeartbeats 4000000 in
theorem scan_run (kd : Int) (P : Int → Bool) (hP : ∀ c : Nat, c < 256 → (bits .and .i64 (kindsN (c : Nat)) kd != 0) = P c) (p : Nat) (s : ByteArray) (k : Nat) (w : World) (hsc : ScanAt w p s k) (hk0 : k ≤ s.size) (hs : s.size ≤ 1099511627776) :
    Calls Tryz.prog 95 #[.pointer (some ⟨p, 0, none⟩), .int .i64 kd] w fun e w' => e = .returned (.string (strOfNums (((nums s).drop k).takeWhile P))) ∧ ScanAt w' p s (k + spanN P s k) ∧ w.grownBy w' (some p) := by
  rw [← extract_span]
  have hE0 : k + spanN P s k ≤ s.size := spanN_le P s k hk0
  have hE1 : k ≤ k + spanN P s k := Nat.le_add_right _ _
  obtain ⟨E, hE⟩ : ∃ E, k + spanN P s k = E := ⟨_, rfl⟩
  rw [hE] at hE0 hE1 ⊢
  have HE := Lib.hid hE
  clear hE
  have hc1 := hsc.place
  go_enter Tryz.func95, Tryz.ntmps95
  go_wp2
  go_loopw [] (fun wr => ∃ j : Nat, j ≤ s.size ∧ j + spanN P s j = E ∧ ScanAt wr p s j ∧ w.grownBy wr (some p)) (fun wr => s.size - placeOf wr p)
  case atStart => exact ⟨k, hk0, HE.out, hsc, gr_refl _ _⟩
  case round =>
    obtain ⟨j, hj, hsp, hscj, hgr⟩ := hrel
    have ht := hscj.text
    have hp := hscj.place
    have hf := hscj.free
    by_cases hlt : j < s.size
    · have hd : decide ((j : Int) < (s.size : Int)) = true := decide_eq_true (by omega)
      obtain ⟨c, hc⟩ : ∃ c, s[j].toNat = c := ⟨_, rfl⟩
      have hidx := index_str s j hlt (c : Int) j (by rw [hc]) rfl
      have hc256 : c < 256 := by rw [← hc]; exact s[j].toBitVec.isLt
      obtain ⟨n, hn⟩ : ∃ n, kindsN (c : Int) = n := ⟨_, rfl⟩
      obtain ⟨m, hm⟩ : ∃ m, bits .and .i64 n kd = m := ⟨_, rfl⟩
      have hmz := hP c hc256
      rw [hn, hm] at hmz
      have HN := Lib.hid hn
      cases hb : P (c : Int) with
      | false =>
        rw [hb] at hmz
        rw [spanN_no hlt (by rw [hc]; exact hb)] at hsp
        obtain rfl : j = E := by omega
        clear hb hc hn hd
        go_wp2_with fail
        go_quiet ((go_at_call 130; exact Calls.quiet_of_same (kinds_quiet c hc256 n HN.out _)))
        clear hmz hm
        go_wp2_with fail
        go_quiet (fail)
        go_wp2
        go_ret
        exact ⟨rfl, hscj, gr_dn (gr_dn hgr _) _⟩
      | true =>
        rw [hb] at hmz
        rw [spanN_yes hlt (by rw [hc]; exact hb)] at hsp
        clear hb hc hn hd
        go_wp2_with fail
        go_quiet ((go_at_call 130; exact Calls.quiet_of_same (kinds_quiet c hc256 n HN.out _)))
        clear hmz hm
        have hst := (hscj.drewN nq).step (j + 1)
        have hpl := placeOf_at hscj
        have hpl' := placeOf_at hst
        go_wp2
        rw [show ((j : Int) + 1) = ((j + 1 : Nat) : Int) by omega]
        exact ⟨⟨j + 1, by omega, by omega, hst, gr_set (gr_dn hgr _) 1 _⟩, by rw [hpl, hpl']; omega⟩
    · rw [spanN_end (by omega)] at hsp
      obtain rfl : j = E := by omega
      have hd : decide ((j : Int) < (s.size : Int)) = false := decide_eq_false (by omega)
      go_wp2_with fail
      go_quiet (fail)
      go_wp2_with fail
      go_quiet (fail)
      go_wp2
      go_ret
      exact ⟨rfl, hscj, gr_dn (gr_dn hgr _) _⟩
theorem scan_token (p : Nat) (s : ByteArray) (k : Nat) (w : World) (hsc : ScanAt w p s k) (hk0 : k ≤ s.size) (hs : s.size ≤ 1099511627776) :
    Calls Tryz.prog 50 #[.pointer (some ⟨p, 0, none⟩)] w fun e w' => e = .returned (.string (strOfNums (((nums s).drop k).takeWhile isTok))) ∧ ScanAt w' p s (k + spanN isTok s k) ∧ w.grownBy w' (some p) := by
  go_enter Tryz.func50, Tryz.ntmps50
  go_wp2_with fail
  refine (scan_run 1 isTok (fun c h => (kinds_and c h).1) _ _ _ _ hsc hk0 hs).mono ?_
  rintro e w' ⟨rfl, h1, h2⟩
  go_wp2
  go_ret
  exact ⟨rfl, h1, h2⟩
theorem scan_blanks (p : Nat) (s : ByteArray) (k : Nat) (w : World) (hsc : ScanAt w p s k) (hk0 : k ≤ s.size) (hs : s.size ≤ 1099511627776) :
    Calls Tryz.prog 51 #[.pointer (some ⟨p, 0, none⟩)] w fun e w' => e = .returned (.string (strOfNums (((nums s).drop k).takeWhile isBl))) ∧ ScanAt w' p s (k + spanN isBl s k) ∧ w.grownBy w' (some p) := by
  go_enter Tryz.func51, Tryz.ntmps51
  go_wp2_with fail
  refine (scan_run 2 isBl (fun c h => (kinds_and c h).2.1) _ _ _ _ hsc hk0 hs).mono ?_
  rintro e w' ⟨rfl, h1, h2⟩
  go_wp2
  go_ret
  exact ⟨rfl, h1, h2⟩
/-- does the byte at k stand there? -/
def atB (s : ByteArray) (k : Nat) (c : Int) : Bool := ((nums s).drop k).head? == some c
theorem atB_lt {s : ByteArray} {k : Nat} (h : k < s.size) (c : Int) : atB s k c = ((s[k].toNat : Int) == c) := by
  unfold atB
  rw [nums_drop s k h, List.head?_cons]
  by_cases e : (s[k].toNat : Int) = c <;> simp [e]
theorem atB_end {s : ByteArray} {k : Nat} (h : s.size ≤ k) (c : Int) : atB s k c = false := by
  unfold atB
  rw [nums_drop_end s k h]
  rfl
set_option maxRecDepth 100000 in
set_option maxHeartbeats 4000000 in
theorem scan_is (d : Int) (p : Nat) (s : ByteArray) (k : Nat) (w : World) (hsc : ScanAt w p s k) (hk0 : k ≤ s.size) (hs : s.size ≤ 1099511627776) :
    Calls Tryz.prog 52 #[.pointer (some ⟨p, 0, none⟩), .int .u8 d] w fun e w' => e = .returned (.bool (atB s k d)) ∧ ScanAt w' p s (if atB s k d then k + 1 else k) ∧ w.grownBy w' (some p) := by
  have ht := hsc.text
  have hp := hsc.place
  have hf := hsc.free
  by_cases hlt : k < s.size
  · obtain ⟨c, hc⟩ : ∃ c, s[k].toNat = c := ⟨_, rfl⟩
    have hidx := index_str s k hlt (c : Int) k (by rw [hc]) rfl
    have ha := atB_lt hlt d
    rw [hc] at ha
    cases hb : atB s k d with
    | false =>
      rw [hb] at ha
      have hq : ((c : Int) == d) = false := ha.symm
      clear ha hc hb
      go_enter Tryz.func52, Tryz.ntmps52
      go_wp2_with fail
      go_quiet (fail)
      go_wp2
      go_ret
      exact ⟨rfl, hsc, gr_dn (gr_refl _ _) _⟩
    | true =>
      rw [hb] at ha
      have hq : ((c : Int) == d) = true := ha.symm
      have hst := fun n => (hsc.drewN n).step (k + 1)
      clear ha hc hb
      go_enter Tryz.func52, Tryz.ntmps52
      go_wp2_with fail
      go_quiet (fail)
      go_wp2
      go_ret
      exact ⟨rfl, hst _, gr_set (gr_dn (gr_refl _ _) _) 1 _⟩
  · rw [atB_end (by omega)]
    have hd : decide ((k : Int) < (s.size : Int)) = false := decide_eq_false (by omega)
    go_enter Tryz.func52, Tryz.ntmps52
    go_wp2_with fail
    go_quiet (fail)
    go_wp2
    go_ret
    exact ⟨rfl, hsc, gr_dn (gr_refl _ _) _⟩
end Go.Proofs.YthahfoliblgegaaGreatDoor
/- 
  A row of bytes that a conversion made, written on; the walks of Lower, in media and in the reference.
 -/
namespace Go.Proofs.YthahfoliblgegaaGreatDoor
open Go.RowKit
set_option maxRecDepth 100000 in
set_option maxHeartbeats 4000000 in
theorem media_Lower (s : ByteArray) (w : World) (hs : s.size ≤ 1099511627776) :
    Calls Tryz.prog 53 #[.string s] w fun e w' => e = .returned (.string (strOfNums (lowL (nums s)))) ∧ Below w.heap.size w w' := by
  have hcv := Lib.run_convert_string_bytes (P := Tryz.prog) w 9 104 5 s Tryz.underlying9 Tryz.underlying104 Tryz.underlying5
  obtain ⟨cap, hcap⟩ : ∃ cap, grownCap w s.size 0 5 = cap := ⟨_, rfl⟩
  have hrow := LowRow.made w 5 s
  have hbl := bytes_below w 5 s
  obtain ⟨w1, hw1⟩ : ∃ w1, Lib.bytesWorld w 5 s = w1 := ⟨_, rfl⟩
  rw [hcap, hw1] at hcv
  rw [hw1] at hrow hbl
  clear hw1 hcap
  obtain ⟨p, hp⟩ : ∃ p, w.heap.size = p := ⟨_, rfl⟩
  have HP := Lib.hid hp
  rw [hp] at hcv hrow hbl
  clear hp
  go_enter Tryz.func53, Tryz.ntmps53
  go_wp2
  go_loopw [10] (fun i wr => ∃ k : Nat, i = .int .i64 k ∧ k ≤ s.size ∧ LowRow wr p (fillL s k) ∧ Below p w1 wr) (fun i _ => s.size - (intOf i).toNat)
  case atStart => exact ⟨0, rfl, by omega, by rw [fillL_zero]; exact hrow, Below.refl _ _⟩
  case round =>
    obtain ⟨k, rfl, hk, hr, hb⟩ := hrel
    by_cases hlt : k < s.size
    · have hca := hr.cellAt k (by rw [fillL_len]; exact hlt)
      rw [fillL_at s k hlt] at hca
      have hfz := hr.frozenAt k (by rw [fillL_len]; exact hlt)
      have hsn := fillL_step s k hlt
      obtain ⟨c, hc⟩ : ∃ c, s[k].toNat = c := ⟨_, rfl⟩
      have hc256 : c < 256 := by rw [← hc]; exact byte256 s k hlt
      rw [hc] at hca hsn
      by_cases hu : 65 ≤ c ∧ c ≤ 90
      · obtain ⟨hu1, hu2⟩ := hu
        have hor := or32 c hu1 hu2
        have hst := hr.stored k ((c : Int) + 32)
        rw [show lowB (c : Int) = (c : Int) + 32 from if_pos (by omega)] at hsn
        rw [← hsn] at hst
        have HS := Lib.hid hst
        clear hsn hst hc
        have p1 := decide_eq_true (show (65 : Int) ≤ (c : Int) by omega)
        have p2 := decide_eq_true (show (c : Int) ≤ (90 : Int) by omega)
        go_wp2
        exact ⟨⟨k + 1, by go_num, by omega, HS.out, hb.setCell (Nat.le_refl _) _⟩, by simp [intOf]; omega⟩
      · rw [show lowB (c : Int) = (c : Int) from if_neg (by omega)] at hsn
        have hset : (fillL s k).set k (c : Int) = fillL s k := by
          have h4 := fillL_at s k hlt
          rw [hc] at h4
          rw [← h4, List.set_getElem_self]
        rw [hset] at hsn
        have hr' := hr
        rw [← hsn] at hr'
        have HS := Lib.hid hr'
        clear hsn hr' hset hc
        by_cases hv : 65 ≤ c
        · have p1 := decide_eq_true (show (65 : Int) ≤ (c : Int) by omega)
          have p2 := decide_eq_false (show ¬ (c : Int) ≤ (90 : Int) by omega)
          clear hu
          go_wp2
          exact ⟨⟨k + 1, by go_num, by omega, HS.out, hb⟩, by simp [intOf]; omega⟩
        · have p1 := decide_eq_false (show ¬ (65 : Int) ≤ (c : Int) by omega)
          clear hu
          go_wp2
          exact ⟨⟨k + 1, by go_num, by omega, HS.out, hb⟩, by simp [intOf]; omega⟩
    · obtain rfl : k = s.size := by omega
      rw [fillL_end] at hr
      have hcv2 := hr.conv s.size cap (by unfold lowL; rw [List.length_map, nums_length])
      go_wp2
      go_ret
      exact ⟨rfl, by rw [HP.out]; exact hbl.trans hb⟩
set_option maxRecDepth 100000 in
set_option maxHeartbeats 4000000 in
theorem ref06_Lower (s : ByteArray) (w : World) (hs : s.size ≤ 1099511627776) :
    Calls Tryz.prog 62 #[.string s] w fun e w' => e = .returned (.string (strOfNums (lowL (nums s)))) ∧ Below w.heap.size w w' := by
  have hcv := Lib.run_convert_string_bytes (P := Tryz.prog) w 9 104 5 s Tryz.underlying9 Tryz.underlying104 Tryz.underlying5
  obtain ⟨cap, hcap⟩ : ∃ cap, grownCap w s.size 0 5 = cap := ⟨_, rfl⟩
  have hrow := LowRow.made w 5 s
  have hbl := bytes_below w 5 s
  obtain ⟨w1, hw1⟩ : ∃ w1, Lib.bytesWorld w 5 s = w1 := ⟨_, rfl⟩
  rw [hcap, hw1] at hcv
  rw [hw1] at hrow hbl
  clear hw1 hcap
  obtain ⟨p, hp⟩ : ∃ p, w.heap.size = p := ⟨_, rfl⟩
  have HP := Lib.hid hp
  rw [hp] at hcv hrow hbl
  clear hp
  go_enter Tryz.func62, Tryz.ntmps62
  go_wp2
  go_loopw [4] (fun i wr => ∃ k : Nat, i = .int .i64 k ∧ k ≤ s.size ∧ LowRow wr p (fillL s k) ∧ Below p w1 wr) (fun i _ => s.size - (intOf i).toNat)
  case atStart => exact ⟨0, rfl, by omega, by rw [fillL_zero]; exact hrow, Below.refl _ _⟩
  case round =>
    obtain ⟨k, rfl, hk, hr, hb⟩ := hrel
    by_cases hlt : k < s.size
    · have hca := hr.cellAt k (by rw [fillL_len]; exact hlt)
      rw [fillL_at s k hlt] at hca
      have hfz := hr.frozenAt k (by rw [fillL_len]; exact hlt)
      have hsn := fillL_step s k hlt
      obtain ⟨c, hc⟩ : ∃ c, s[k].toNat = c := ⟨_, rfl⟩
      have hc256 : c < 256 := by rw [← hc]; exact byte256 s k hlt
      rw [hc] at hca hsn
      by_cases hu : 65 ≤ c ∧ c ≤ 90
      · obtain ⟨hu1, hu2⟩ := hu
        have hst := hr.stored k ((c : Int) + 32)
        rw [show lowB (c : Int) = (c : Int) + 32 from if_pos (by omega)] at hsn
        rw [← hsn] at hst
        have HS := Lib.hid hst
        clear hsn hst hc
        have p1 := decide_eq_true (show (65 : Int) ≤ (c : Int) by omega)
        have p2 := decide_eq_true (show (c : Int) ≤ (90 : Int) by omega)
        go_wp2
        exact ⟨⟨k + 1, by go_num, by omega, HS.out, hb.setCell (Nat.le_refl _) _⟩, by simp [intOf]; omega⟩
      · rw [show lowB (c : Int) = (c : Int) from if_neg (by omega)] at hsn
        have hset : (fillL s k).set k (c : Int) = fillL s k := by
          have h4 := fillL_at s k hlt
          rw [hc] at h4
          rw [← h4, List.set_getElem_self]
        rw [hset] at hsn
        have hr' := hr
        rw [← hsn] at hr'
        have HS := Lib.hid hr'
        clear hsn hr' hset hc
        by_cases hv : 65 ≤ c
        · have p1 := decide_eq_true (show (65 : Int) ≤ (c : Int) by omega)
          have p2 := decide_eq_false (show ¬ (c : Int) ≤ (90 : Int) by omega)
          clear hu
          go_wp2
          exact ⟨⟨k + 1, by go_num, by omega, HS.out, hb⟩, by simp [intOf]; omega⟩
        · have p1 := decide_eq_false (show ¬ (65 : Int) ≤ (c : Int) by omega)
          clear hu
          go_wp2
          exact ⟨⟨k + 1, by go_num, by omega, HS.out, hb⟩, by simp [intOf]; omega⟩
    · obtain rfl : k = s.size := by omega
      rw [fillL_end] at hr
      have hcv2 := hr.conv s.size cap (by unfold lowL; rw [List.length_map, nums_length])
      go_wp2
      go_ret
      exact ⟨rfl, by rw [HP.out]; exact hbl.trans hb⟩
end Go.Proofs.YthahfoliblgegaaGreatDoor
