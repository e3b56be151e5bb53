/-
  Layer 5: the walk of Of.
-/
import Derived.Test.YtaheooedcjjckaaDoorLaE
namespace Go.Proofs.YtaheooedcjjckaaDoor
open Go.RowKit
attribute [local go_sem] Oper.semAt_some
theorem each_stops (n : Nat) (hn : 1 ≤ n) (w : World) (ht : TabAt w) :
    SeqStopsK Fence.wide n Tryd.prog 19 #[] (fun x : Int × ByteArray => #[.int .i8 x.1, .string x.2]) KeepsC (fun ys => ys = restP 0) (fun pre => pre <+: restP 0) (restP 0).length w := fun l J Jx W hW hJ _ hY h0 => by
  have h := each_in n hn l J Jx W.heap.size hJ (fun pre x W1 hj hp => hY pre x W1 hj (by have := hp.length_le; rw [List.length_append, List.length_singleton] at this; omega)) W (ht.below hW) h0
  refine CallsIn.mono ?_ ?_ (R := fun e W' => (∃ v, e = .returned v) ∧ (J (restP 0) W' ∨ (∃ pre, pre <+: restP 0 ∧ Jx pre W')))
  · simpa using h
  · rintro e W' ⟨hv, h | h⟩
    · exact ⟨hv, .inl ⟨_, rfl, h⟩⟩
    · exact ⟨hv, .inr h⟩
/-- the text that is looked for. -/
def wantS (s : ByteArray) : ByteArray := strOfNums (lowL (nums (trimS s)))
set_option maxRecDepth 100000 in
set_option maxHeartbeats 4000000 in
theorem label_Of (s : ByteArray) (hs : s.size ≤ 1000000) (w : World) (ht : TabAt w) :
    Calls Tryd.prog 8 #[.string s] w fun e w' => e = .returned (.tuple #[.int .i8 (ofS (wantS s)).1, .bool (ofS (wantS s)).2]) ∧ Below w.heap.size w w' := by
  have hts := trimS_size s
  obtain ⟨T, hT⟩ : ∃ T, trimS s = T := ⟨_, rfl⟩
  have hX : wantS s = strOfNums (lowL (nums T)) := by unfold wantS; rw [hT]
  obtain ⟨X, hXX⟩ : ∃ X, strOfNums (lowL (nums T)) = X := ⟨_, rfl⟩
  rw [hXX] at hX
  rw [hT] at hts
  have H1 := Lib.hid (fun u => by have h := label_Trim s u hs; rw [hT] at h; exact h)
  have H2 := Lib.hid (fun u => by have h := label_Lower T u (by omega); rw [hXX] at h; exact h)
  have HX := Lib.hid hX
  clear hT hXX hX
  refine (callsIn_wide (n := 5)).1 ?_
  refine callsIn_of_wp_marks Tryd.func8 rfl trivial ?_ rfl
  simp only [Tryd.ntmps8, List.size_toArray, List.length_cons, List.length_nil, Nat.reduceAdd, Nat.reduceSub, Array.replicate_succ, Array.replicate_zero, List.push_toArray, List.append_toArray, List.nil_append, List.cons_append]
  gi_wp2_with fail
  refine ⟨trivial, (callsIn_wide.2 (H1.out _)).mono ?_⟩
  rintro e w' ⟨rfl, hb1⟩
  gi_wp2_with fail
  refine ⟨trivial, (callsIn_wide.2 (H2.out _)).mono ?_⟩
  rintro e w'2 ⟨rfl, hb2⟩
  gi_wp2_with fail
  have bA := (Boxed.new w 22 (.int .i8 0)).alloc (.cells #[.bool false] 4)
  have bB := Boxed.new (w.alloc (.cells #[.int .i8 0] 22)) 4 (.bool false)
  have e0 := ((Below.refl w.heap.size w).alloc (Nat.le_refl _) (.cells #[.int .i8 0] 22)).alloc (by simp) (.cells #[.bool false] 4)
  have s0 : ((w.alloc (.cells #[.int .i8 0] 22)).alloc (.cells #[.bool false] 4)).heap.size = w.heap.size + 2 := by simp
  rw [show (w.alloc (.cells #[.int .i8 0] 22)).heap.size = w.heap.size + 1 from World.size_alloc _ _] at bB
  obtain ⟨w0, hw0⟩ : ∃ x, (w.alloc (.cells #[.int .i8 0] 22)).alloc (.cells #[.bool false] 4) = x := ⟨_, rfl⟩
  rw [hw0] at bA bB e0 s0 hb1
  clear hw0
  have bA : Boxed w'2 w.heap.size 22 (.int .i8 0) := ((bt hb1 hb2).block _ (by omega)).trans bA
  have bB : Boxed w'2 (w.heap.size + 1) 4 (.bool false) := ((bt hb1 hb2).block _ (by omega)).trans bB
  have e2 : Below w.heap.size w w'2 := e0.trans ((bt hb1 hb2).mono (by omega))
  have z2 : w.heap.size + 2 ≤ w'2.heap.size := by have := (bt hb1 hb2).size; omega
  have bE := Boxed.new w'2 9 (.string X)
  have bA := Boxed.alloc bA (.cells #[.string X] 9)
  have bB := Boxed.alloc bB (.cells #[.string X] 9)
  have e3 := e2.alloc e2.size (.cells #[.string X] 9)
  have s3 : (w'2.alloc (.cells #[.string X] 9)).heap.size = w'2.heap.size + 1 := World.size_alloc _ _
  obtain ⟨P, hP⟩ : ∃ x, w'2.heap.size = x := ⟨_, rfl⟩
  rw [hP] at bE s3 z2
  obtain ⟨w3, hw3⟩ : ∃ x, w'2.alloc (.cells #[.string X] 9) = x := ⟨_, rfl⟩
  rw [hw3] at bA bB bE e3 s3
  rw [hP, hw3]
  clear hw3 hP e2 hb1 hb2 e0 s0
  refine wpIn_rangeFunc_ownH rfl (by omega) (gf := 19) (lb := #[]) rfl trivial (enters_of Tryd.func19 (by kernel_rfl) rfl)
    (each_stops _ (by omega) w3 (ht.below e3)) KeepsC.trans (fun W l o o' _ h1 h2 _ => KeepsC.putObj W l o o' h1 h2) (Below.refl _ _) (fun _ => rfl)
    (fun pre W => (((Boxed W w.heap.size 22 (.int .i8 0) ∧ Boxed W (w.heap.size + 1) 4 (.bool false)) ∧ Boxed W P 9 (.string X)) ∧ Below w.heap.size w W) ∧ ∀ p ∈ pre, (p.2.toList == X.toList) = false)
    (fun c pre W => ((∃ (g : List (Int × ByteArray)) (x : Int × ByteArray), (pre = g ++ [x] ∧ (∀ p ∈ g, (p.2.toList == X.toList) = false) ∧ (x.2.toList == X.toList) = true) ∧ Boxed W w.heap.size 22 (.int .i8 x.1) ∧ Boxed W (w.heap.size + 1) 4 (.bool true)) ∧ Below w.heap.size w W) ∧ c = .ret)
    (OwnFrom.and (OwnFrom.and (OwnFrom.and (OwnFrom.and (Own.from (boxed_own _ _ (fun _ => .int .i8 0)) _) (Own.from (boxed_own _ _ (fun _ => .bool false)) _)) (Own.from (boxed_own _ _ (fun _ => .string X)) _)) (ownFrom_below (Nat.le_refl _) (by omega))) (ownFrom_pure _ _))
    ?ownx
    ⟨⟨⟨⟨bA, bB⟩, bE⟩, e3⟩, fun x hx => by cases hx⟩
    (fun x a' W => a' = { tmps := #[.string s, undef, .pointer (some ⟨w.heap.size, 0, none⟩), .pointer (some ⟨w.heap.size + 1, 0, none⟩), .pointer (some ⟨P, 0, none⟩), .int .i8 x.1, .string x.2, .string s, .string T, .string X, .int .i8 x.1, .string x.2, undef, undef, undef, undef], defers := [] })
    (fun x a' => ownFrom_pure _ _) ?assign ?body ?done ?stop
  case ownx =>
    rintro c pre X' Y row ⟨⟨⟨g, x, h, b1, b2⟩, hb⟩, rfl⟩ hg hr
    have hn : ∀ {k t v}, Boxed X' k t v → some k ≠ row := by
      intro k t v hk e
      obtain ⟨_, o, ho, hc⟩ := hr k e.symm
      rw [show X'.heap[k]? = _ from hk] at ho
      cases ho
      cases hc
    exact ⟨⟨⟨g, x, h, b1.kept hg (hn b1), b2.kept hg (hn b2)⟩, (ownFrom_below (β := Unit) (Nat.le_refl _) (by omega)) () X' Y row hb hg hr⟩, rfl⟩
  case assign =>
    rintro l pre x W K hI hK
    dsimp only
    gi_wp2
    exact hK _ _ ((KeepsOthers.refl _).from _) (fun _ _ _ _ h => h) hI rfl
  case body =>
    rintro l pre x a' W hl hrec ⟨⟨⟨⟨hr1, hr2⟩, hsb⟩, hB⟩, hall⟩ rfl hlt
    have c1 := hr1.cell
    have c2 := hr2.cell
    have c3 := hsb.cell
    have f1 := hr1.frozen
    have f2 := hr2.frozen
    obtain ⟨en, L⟩ := x
    dsimp only
    cases he : L.toList == X.toList with
    | true =>
      gi_wp2_with fail
      refine ⟨((KeepsOthers.setCell _ _ _).trans (KeepsOthers.setCell _ _ _)).from _, ⟨⟨pre, (en, L), ⟨rfl, hall, he⟩, ?_, ?_⟩, ?_⟩, rfl⟩
      · exact (hr1.set _).other (by omega) _
      · exact (hr2.other (by omega) _).set _
      · exact (hB.setCell (p := ⟨w.heap.size, 0, none⟩) (Nat.le_refl _) _).setCell (p := ⟨w.heap.size + 1, 0, none⟩) (by simp) _
    | false =>
      gi_wp2_with fail
      refine ⟨(KeepsOthers.refl _).from _, fun _ _ _ _ h => h, ⟨⟨⟨hr1, hr2⟩, hsb⟩, hB⟩, fun p hp => ?_⟩
      rw [List.mem_append, List.mem_singleton] at hp
      rcases hp with hp | rfl
      · exact hall p hp
      · exact he
  case done =>
    rintro D ys W hD rfl ⟨⟨⟨⟨hr1, hr2⟩, hsb⟩, hB⟩, hall⟩ hK
    have c1 := hr1.cell
    have c2 := hr2.cell
    have f1 := hr1.frozen
    have f2 := hr2.frozen
    have HV := Lib.hid (show ofS (wantS s) = (0, false) by rw [HX.out]; exact ofP_none X _ hall)
    gi_wp2
    have b1 := (hr1.set (.int .i8 0)).other (B' := w.heap.size + 1) (by omega) (.bool false)
    have b2 := (hr2.other (B' := w.heap.size) (by omega) (.int .i8 0)).set (.bool false)
    have hKd := ((KeepsOthers.setCell W ⟨w.heap.size, 0, none⟩ (.int .i8 0)).trans (KeepsOthers.setCell _ ⟨w.heap.size + 1, 0, none⟩ (.bool false))).same D _ hK rfl
    have hBf := (hB.setCell (p := ⟨w.heap.size, 0, none⟩) (Nat.le_refl _) (.int .i8 0)).setCell (p := ⟨w.heap.size + 1, 0, none⟩) (by simp) (.bool false)
    refine ⟨by simp, .inl ⟨_, _, rfl, run_takeDeferred hKd, ?_⟩⟩
    have k1 := cell_kept b1.cell (grownBy_putObj' _ D (.deferred none)) (fun r e => by cases e; exact ⟨_, hKd, rfl⟩)
    have k2 := cell_kept b2.cell (grownBy_putObj' _ D (.deferred none)) (fun r e => by cases e; exact ⟨_, hKd, rfl⟩)
    refine ⟨.tuple #[.int .i8 0, .bool false], ?_, by rw [HV.out], hBf.trans (belowK_b (w := w) (Nat.le_refl _) _ D _ _ (by omega) hKd rfl rfl)⟩
    simp [results, Tryd.f8, go_sem, k1, k2]
  case stop =>
    rintro D c pre W hD hp ⟨⟨⟨g, x, ⟨rfl, hg, hx⟩, h1, h2⟩, hB⟩, rfl⟩ hK
    have HV := Lib.hid (show ofS (wantS s) = (x.1, true) by rw [HX.out]; exact ofP_some X _ g x hp hg hx)
    gi_wp2
    refine ⟨by simp, .inl ⟨_, _, rfl, run_takeDeferred hK, ?_⟩⟩
    have k1 := cell_kept h1.cell (grownBy_putObj' _ D (.deferred none)) (fun r e => by cases e; exact ⟨_, hK, rfl⟩)
    have k2 := cell_kept h2.cell (grownBy_putObj' _ D (.deferred none)) (fun r e => by cases e; exact ⟨_, hK, rfl⟩)
    refine ⟨.tuple #[.int .i8 x.1, .bool true], ?_, by rw [HV.out], hB.trans (belowK_b (w := w) (Nat.le_refl _) W D _ _ (by omega) hK rfl rfl)⟩
    simp [results, Tryd.f8, go_sem, k1, k2]
end Go.Proofs.YtaheooedcjjckaaDoor
