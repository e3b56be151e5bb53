/-
  The walks of chars: scalars (an iterator), front, Plain, Take, Bad.
-/
import Derived.Test.YtkdkoondchbekaaDoorChA
import Derived.Test.YtkdkoondchbekaaDoorU8E
namespace Go.Proofs.YtkdkoondchbekaaDoor
open Go.RowKit Go.Shelf
attribute [local go_sem] Oper.semAt_some
/-- what a text's iterator hands out: where each scalar stands, and it; -1 at the first wrong part. -/
def scP : Nat → List (Int × Nat) → List (Nat × Int)
  | _, [] => []
  | a, p :: r => if p.1 < 0 then [(a, -1)] else (a, p.1) :: scP (a + p.2) r
def scs (s : ByteArray) : List (Nat × Int) := scP 0 (pieces (nums s))
theorem scP_app : ∀ (a : Nat) (l m : List (Int × Nat)), (∀ p ∈ l, 0 ≤ p.1) → scP a (l ++ m) = scP a l ++ scP (a + (l.map (·.2)).sum) m
  | a, [], m, _ => by simp [scP]
  | a, p :: r, m, h => by
    have h0 := h p (List.mem_cons_self ..)
    rw [List.cons_append, scP, scP, if_neg (by omega), if_neg (by omega), scP_app (a + p.2) r m fun q hq => h q (List.mem_cons_of_mem _ hq)]
    simp [Nat.add_assoc]
theorem scP_len : ∀ (a : Nat) (l : List (Int × Nat)), (scP a l).length ≤ l.length
  | _, [] => Nat.le_refl _
  | a, p :: r => by
    rw [scP]
    split
    · simp
    · have := scP_len (a + p.2) r
      simp only [List.length_cons]; omega
theorem sc_all (Q : Nat → Int → Bool) (hQ : ∀ a r, r < 0 → Q a r = false) : ∀ (a : Nat) (l : List (Int × Nat)), (∀ x ∈ scP a l, Q x.1 x.2 = true) → stopP Q a l = a + (l.map (·.2)).sum
  | a, [], _ => by simp [stopP]
  | a, p :: r, h => by
    rw [scP] at h
    split at h
    · have := h (a, -1) (List.mem_cons_self ..)
      rw [hQ a (-1) (by omega)] at this; cases this
    · have h1 := h (a, p.1) (List.mem_cons_self ..)
      rw [stopP, if_pos h1, sc_all Q hQ (a + p.2) r fun x hx => h x (List.mem_cons_of_mem _ hx)]
      simp [Nat.add_assoc]
theorem sc_stop (Q : Nat → Int → Bool) (hQ : ∀ a r, r < 0 → Q a r = false) : ∀ (a : Nat) (l : List (Int × Nat)) (g : List (Nat × Int)) (x : Nat × Int), (g ++ [x]) <+: scP a l → (∀ y ∈ g, Q y.1 y.2 = true) → Q x.1 x.2 = false → stopP Q a l = x.1
  | a, [], g, x, h, _, _ => by
    have := h.length_le
    simp [scP] at this
  | a, p :: r, g, x, h, hg, hx => by
    rw [scP] at h
    split at h
    · rename_i hn
      cases g with
      | nil =>
        obtain ⟨t, ht⟩ := h
        have e : x = (a, -1) := by injection ht
        rw [stopP, if_neg (by rw [hQ a p.1 hn]; decide), e]
      | cons y g =>
        have := h.length_le
        simp at this
    · cases g with
      | nil =>
        obtain ⟨t, ht⟩ := h
        have e : x = (a, p.1) := by injection ht
        rw [e] at hx
        rw [stopP, if_neg (by rw [show Q a p.1 = false from hx]; decide), e]
      | cons y g =>
        rw [List.cons_append, List.cons_prefix_cons] at h
        have h1 := hg y (List.mem_cons_self ..)
        rw [h.1] at h1
        rw [stopP, if_pos h1]
        exact sc_stop Q hQ (a + p.2) r g x h.2 (fun z hz => hg z (List.mem_cons_of_mem _ hz)) hx
theorem frQ_neg (f : Int → Bool) (hf : ∀ r, r < 0 → f r = false) (a : Nat) (r : Int) (h : r < 0) : frQ f a r = false := by unfold frQ; rw [hf r h, Bool.and_false]
theorem tk_neg (r : Int) (h : r < 0) : tkB r = false := by
  unfold tkB
  rw [neg_fu h, decide_eq_false (by omega)]; rfl
/-- all that is handed out so far is as asked. -/
def goodL (Q : Nat → Int → Bool) (l : List (Nat × Int)) : Prop := ∀ x ∈ l, Q x.1 x.2 = true
theorem goodL_snoc {Q : Nat → Int → Bool} {l : List (Nat × Int)} {x : Nat × Int} (h : goodL Q l) (hx : Q x.1 x.2 = true) : goodL Q (l ++ [x]) := by
  intro y hy
  rw [List.mem_append, List.mem_singleton] at hy
  rcases hy with hy | rfl
  · exact h y hy
  · exact hx
/-- the last one is not. -/
def stopL (Q : Nat → Int → Bool) (l : List (Nat × Int)) (k : Nat) : Prop := ∃ g x, l = g ++ [x] ∧ goodL Q g ∧ Q x.1 x.2 = false ∧ x.1 = k
set_option maxHeartbeats 1000000 in
theorem chars_scalars_in (F : Fence) (n : Nat) (h27 : F.fn 37) (hro : F.round = none) (s : ByteArray) (w : World) :
    CallsIn F n Tryd.prog 37 #[.string s] w fun e w' => e = .returned (.func (.func 46) #[] #[.pointer (some ⟨w.heap.size, 0, none⟩)]) ∧ w' = w.alloc (.cells #[.string s] 9) := by
  refine callsIn_of_wp Tryd.func37 rfl h27 ?_ hro
  simp only [Tryd.ntmps37, List.size_toArray, List.length_cons, List.length_nil, Nat.reduceAdd, Nat.reduceSub, Array.replicate_succ, Array.replicate_zero, List.push_toArray, List.append_toArray, List.nil_append, List.cons_append]
  gi_wp2
  go_ret
  exact ⟨rfl, rfl⟩
set_option maxRecDepth 100000 in
set_option maxHeartbeats 2000000 in
theorem chars_scalars1_in (n : Nat) (hn : 1 ≤ n) (l Bs : Nat) (s : ByteArray) (hs : s.size ≤ 1099511627776) (J Jx : List (Nat × Int) → World → Prop)
    (hY : ∀ pre x W, J pre W → pre.length < s.size → YieldAt Fence.wide (n - 1) Tryd.prog l #[.int .i64 (x.1 : Nat), .int .i64 x.2] W fun e W' =>
      (e = .returned (.bool true) ∧ J (pre ++ [x]) W' ∧ W'.cell? ⟨Bs, 0, none⟩ = W.cell? ⟨Bs, 0, none⟩) ∨ (e = .returned (.bool false) ∧ Jx (pre ++ [x]) W'))
    (W : World) (hBs : W.cell? ⟨Bs, 0, none⟩ = some (.string s)) (h0 : J [] W) :
    CallsIn Fence.wide n Tryd.prog 46 #[.func (.yield l) #[] #[], .pointer (some ⟨Bs, 0, none⟩)] W fun e W' => (∃ v, e = .returned v) ∧
      ((∃ ys, ys = scs s ∧ J ys W') ∨ (∃ pre, pre <+: scs s ∧ Jx pre W')) := by
  refine callsIn_of_wp Tryd.func46 rfl trivial ?_ rfl
  simp only [Tryd.ntmps46, List.size_toArray, List.length_cons, List.length_nil, Nat.reduceAdd, Nat.reduceSub, Array.replicate_succ, Array.replicate_zero, List.push_toArray, List.append_toArray, List.nil_append, List.cons_append]
  gi_wp2
  gi_loopw [3] (fun a wr => ∃ (k : Nat) (done : List (Int × Nat)), a = .int .i64 k ∧ k ≤ s.size ∧ done.length ≤ k ∧ pieces (nums s) = done ++ pieces ((nums s).drop k) ∧ (∀ p ∈ done, 0 ≤ p.1) ∧ (done.map (·.2)).sum = k ∧ J (scP 0 done) wr ∧ wr.cell? ⟨Bs, 0, none⟩ = some (.string s))
    (fun a _ => s.size - (intOf a).toNat)
  case atStart => exact ⟨0, [], rfl, by omega, by simp, by simp, by simp, rfl, h0, hBs⟩
  case round =>
    obtain ⟨k, done, rfl, hk, hdk, hq, hpos, hsum, hJ, hc⟩ := hrel
    by_cases hlt : k < s.size
    · have hpd := pieces_drop hlt
      have hpl := piece_drop_le hlt
      obtain ⟨p, hp⟩ : ∃ p, piece ((nums s).drop k) = p := ⟨_, rfl⟩
      rw [hp] at hpd hpl
      have hel : scs s = scP 0 done ++ scP k (p :: pieces ((nums s).drop (k + p.2))) := by
        unfold scs
        rw [hq, hpd, scP_app 0 done _ hpos, hsum, Nat.zero_add]
      have hlen := scP_len 0 done
      by_cases hneg : p.1 < 0
      · have hnx : nextR s k = (-1, 0) := by unfold nextR; rw [if_neg (by omega), Int.toNat_natCast, hp, if_pos hneg]
        have HN := Lib.hid hnx
        rw [scP, if_pos hneg] at hel
        obtain ⟨fn, tmps, assign, body, hy, hR⟩ := hY (scP 0 done) (k, -1) wr hJ (by omega)
        dsimp only at hy
        have HE := Lib.hid hel
        clear hp hel hq hpd hnx hpos hsum
        gi_wp2_with (refine ⟨trivial, ?_⟩; gi_at_call 47; refine (callsIn_wide.2 (utf8_Next s k _ (by omega))).mono ?_; rw [HN.out]; rintro e w' ⟨rfl, rfl⟩)
        refine hR.mono ?_
        rintro e W3 (⟨rfl, hJ3, hk3⟩ | ⟨rfl, hJx3⟩)
        · clear hk3
          gi_wp2
          refine bodyPost_ret (results_none rfl _ _ _) rfl ?_
          exact ⟨⟨_, rfl⟩, .inl ⟨_, HE.out.symm, hJ3⟩⟩
        · gi_wp2
          refine bodyPost_ret (results_none rfl _ _ _) rfl ?_
          exact ⟨⟨_, rfl⟩, .inr ⟨_, ⟨[], by rw [HE.out, List.append_nil]⟩, hJx3⟩⟩
      · have hnx : nextR s k = p := by unfold nextR; rw [if_neg (by omega), Int.toNat_natCast, hp, if_neg hneg]
        have hr : pR (nextR s k) = p.1 := by rw [hnx]; exact pR_of (by omega)
        have hko : pOk (nextR s k) = true := by rw [hnx]; exact pOk_of (by omega)
        have hn2 : (nextR s k).2 = p.2 := by rw [hnx]
        have HN := Lib.hid (And.intro hr (And.intro hn2 hko))
        rw [scP, if_neg hneg] at hel
        obtain ⟨fn, tmps, assign, body, hy, hR⟩ := hY (scP 0 done) (k, p.1) wr hJ (by omega)
        dsimp only at hy
        have HE := Lib.hid hel
        have HQ := Lib.hid hq
        have HPD := Lib.hid hpd
        have HPO := Lib.hid hpos
        clear hp hel hq hpd hnx hr hko hn2 hpos
        gi_wp2_with (refine ⟨trivial, ?_⟩; gi_at_call 47; refine (callsIn_wide.2 (utf8_Next s k _ (by omega))).mono ?_; rw [HN.out.1, HN.out.2.1, HN.out.2.2]; rintro e w' ⟨rfl, rfl⟩)
        refine hR.mono ?_
        rintro e W3 (⟨rfl, hJ3, hk3⟩ | ⟨rfl, hJx3⟩)
        · have hc3 := hk3.trans hc
          clear hk3
          gi_wp2
          go_roundw
          case rel =>
            refine ⟨k + p.2, done ++ [p], by go_num, by omega, by simp; omega, by rw [HQ.out, HPD.out]; simp, ?_, by simp [hsum], ?_, hc3⟩
            · intro q hq
              rw [List.mem_append, List.mem_singleton] at hq
              rcases hq with hq | rfl
              · exact HPO.out q hq
              · omega
            · rw [scP_app 0 done [p] HPO.out, hsum, Nat.zero_add, scP, if_neg (by omega), scP]; exact hJ3
          case measure => simp [intOf]; omega
        · gi_wp2
          refine bodyPost_ret (results_none rfl _ _ _) rfl ?_
          exact ⟨⟨_, rfl⟩, .inr ⟨_, ⟨_, by rw [HE.out, List.append_assoc]; rfl⟩, hJx3⟩⟩
    · have hend := pieces_drop_end (s := s) (k := k) (by omega)
      rw [hend, List.append_nil] at hq
      have HE := Lib.hid (show scs s = scP 0 done by unfold scs; rw [hq])
      clear hq hend hpos
      gi_wp2
      go_end0
      exact ⟨⟨_, rfl⟩, .inl ⟨_, HE.out.symm, hJ⟩⟩
theorem chars_scalars_stops (n : Nat) (hn : 1 ≤ n) (Bs : Nat) (s : ByteArray) (hs : s.size ≤ 1099511627776) (w : World) (hBs : Bs < w.heap.size) (hc : w.cell? ⟨Bs, 0, none⟩ = some (.string s)) :
    SeqStopsK Fence.wide n Tryd.prog 46 #[.pointer (some ⟨Bs, 0, none⟩)] (fun x : Nat × Int => #[Value.int .i64 (x.1 : Nat), Value.int .i64 x.2]) (KeepsBox Bs) (fun ys => ys = scs s) (fun pre => pre <+: scs s) s.size w := fun l J Jx W hW _ _ hY h0 =>
  chars_scalars1_in n hn l Bs s hs J Jx hY W ((hW.cell (p := ⟨Bs, 0, none⟩) hBs).trans hc) h0
def BadI (w : World) (s : ByteArray) : List (Nat × Int) → World → Prop :=
  fun pre W => ((Boxed W w.heap.size 3 (.int .i64 0) ∧ Boxed W (w.heap.size + 1) 9 (.string s)) ∧ Below w.heap.size w W) ∧ goodL (fun _ r => chB r) pre
def BadX (w : World) : Code → List (Nat × Int) → World → Prop :=
  fun c pre W => ((∃ k : Nat, Boxed W w.heap.size 3 (.int .i64 k) ∧ stopL (fun _ r => chB r) pre k) ∧ Below w.heap.size w W) ∧ c = .ret
set_option maxRecDepth 100000 in
set_option maxHeartbeats 2000000 in
theorem chars_Bad0 (s : ByteArray) (hs : s.size ≤ 137438953472) (w : World) :
    Calls Tryd.prog 14 #[.string s] w fun e w' => ((e = .returned (.int .i64 (-1)) ∧ goodL (fun _ r => chB r) (scs s)) ∨ (∃ (k : Nat) (pre : List (Nat × Int)), e = .returned (.int .i64 k) ∧ pre <+: scs s ∧ stopL (fun _ r => chB r) pre k)) ∧ Below w.heap.size w w' := by
  refine (callsIn_wide (n := 5)).1 ?_
  refine callsIn_of_wp_marks Tryd.func14 rfl trivial ?_ rfl
  simp only [Tryd.ntmps14, List.size_toArray, List.length_cons, List.length_nil, Nat.reduceAdd, Nat.reduceSub, Array.replicate_succ, Array.replicate_zero, List.push_toArray, List.append_toArray, List.nil_append, List.cons_append]
  gi_wp2_with (refine ⟨trivial, ?_⟩; gi_at_call 37; refine (chars_scalars_in Fence.wide _ trivial rfl _ _).mono ?_; rintro e w' ⟨rfl, rfl⟩)
  have bO := Boxed.new w 3 (.int .i64 0)
  have bS := Boxed.new (w.alloc (.cells #[.int .i64 0] 3)) 9 (.string s)
  rw [World.size_alloc] at bS
  have hB0 : Below w.heap.size w ((w.alloc (.cells #[.int .i64 0] 3)).alloc (.cells #[.string s] 9)) := ((Below.refl _ w).alloc (Nat.le_refl _) _).alloc (by simp) _
  refine wpIn_rangeFunc_ownG rfl (by omega) (gf := 46) (lb := #[.pointer (some ⟨w.heap.size + 1, 0, none⟩)]) rfl trivial (enters_of Tryd.func46 (by kernel_rfl) rfl)
    (chars_scalars_stops _ (by omega) (w.heap.size + 1) s (by omega) _ (by simp) bS.cell) keepsBox_t (keepsBox_b (by simp)) (Below.refl _ _) (fun _ => rfl)
    (BadI w s)
    (BadX w)
    (OwnFrom.and (OwnFrom.and (OwnFrom.and (Own.from (boxed_own _ _ (fun _ => .int .i64 0)) _) (Own.from (boxed_own _ _ (fun _ => .string s)) _)) (ownFrom_below (Nat.le_refl _) (by simp; omega))) (ownFrom_pure _ _))
    (fun _ => OwnFrom.and (OwnFrom.and (Own.from (boxed_ownE w.heap.size 3 (fun k : Nat => Value.int .i64 k) (stopL (fun _ r => chB r))) _) (ownFrom_below (Nat.le_refl _) (by simp; omega))) (ownFrom_pure _ _))
    ⟨⟨⟨bO.alloc _, bS⟩, hB0⟩, fun x hx => by cases hx⟩
    (fun x => { tmps := #[.string s, undef, .pointer (some ⟨w.heap.size, 0, none⟩), .int .i64 (x.1 : Nat), .int .i64 x.2, .string s, .func (.func 46) #[] #[.pointer (some ⟨w.heap.size + 1, 0, none⟩)], .int .i64 (x.1 : Nat), .int .i64 x.2, undef, undef, undef, undef], defers := [] }) ?assign ?body ?done ?stop
  case assign =>
    intro l x W K hK
    gi_wp2
    exact hK
  case body =>
    rintro l pre x W ⟨⟨⟨hf, hsb⟩, hB⟩, hpos⟩ hlt
    have hff := hf.frozen
    have hfc := hf.cell
    have hsz : w.heap.size + 2 ≤ W.heap.size := hsb.lt
    cases hx : chB x.2 with
    | false =>
      have HX := Lib.hid hx
      clear hx
      gi_wp2_with (refine ⟨trivial, ?_⟩; gi_at_call 16; refine (CallsIn.inRound l (callsIn_wide.2 (chars_Char x.2 _))).mono ?_; rw [HX.out]; rintro e w' ⟨rfl, hb2⟩; have hf2 : Boxed w' w.heap.size 3 (.int .i64 0) := (hb2.block _ hf.lt).trans hf; have hff2 := hf2.frozen; have hfc2 := hf2.cell)
      exact ⟨((keepsOthers_of_below hb2).trans (KeepsOthers.setCell _ _ _)).from _, ⟨⟨x.1, hf2.set _, pre, x, rfl, hpos, HX.out, rfl⟩, hB.trans ((show Below w.heap.size W w' from hb2.mono (by omega)).setCell (p := ⟨w.heap.size, 0, none⟩) (Nat.le_refl _) _)⟩, rfl⟩
    | true =>
      have HX := Lib.hid hx
      clear hx
      gi_wp2_with (refine ⟨trivial, ?_⟩; gi_at_call 16; refine (CallsIn.inRound l (callsIn_wide.2 (chars_Char x.2 _))).mono ?_; rw [HX.out]; rintro e w' ⟨rfl, hb2⟩; have hf2 : Boxed w' w.heap.size 3 (.int .i64 0) := (hb2.block _ hf.lt).trans hf; have hff2 := hf2.frozen; have hfc2 := hf2.cell)
      exact ⟨(keepsOthers_of_below hb2).from _, hb2.cell (p := ⟨w.heap.size + 1, 0, none⟩) hsb.lt, ⟨⟨hf2, (hb2.block _ hsb.lt).trans hsb⟩, hB.trans (hb2.mono (by omega))⟩, goodL_snoc hpos HX.out⟩
  case done =>
    rintro D ys W hD rfl ⟨⟨⟨hf, hsb⟩, hB⟩, hpos⟩ hK
    have hff := hf.frozen
    have hfc := hf.cell
    have hset := hf.set (.int .i64 (-1))
    have HS := Lib.hid hset
    have HKp := Lib.hid ((KeepsOthers.setCell W ⟨w.heap.size, 0, none⟩ (.int .i64 (-1))).same D _ hK rfl)
    have HBl := Lib.hid (hB.setCell (p := ⟨w.heap.size, 0, none⟩) (Nat.le_refl _) (.int .i64 (-1)))
    clear hset
    gi_wp2
    have hK' := HKp.out
    refine ⟨by simp, .inl ⟨_, _, rfl, run_takeDeferred hK', ?_⟩⟩
    have hc5 := cell_kept HS.out.cell (grownBy_putObj' _ D (.deferred none)) (fun r e => by cases e; exact ⟨_, hK', rfl⟩)
    refine ⟨.int .i64 (-1), ?_, .inl ⟨rfl, hpos⟩, HBl.out.trans (belowK_b (w := w) (Nat.le_refl _) _ D _ _ (by simp at hD; omega) hK' rfl rfl)⟩
    simp [results, Tryd.f14, go_sem, hc5]
  case stop =>
    rintro D c pre W hD ht ⟨⟨⟨k, hv, hst⟩, hB⟩, rfl⟩ hK
    gi_wp2
    refine ⟨by simp, .inl ⟨_, _, rfl, run_takeDeferred hK, ?_⟩⟩
    have hc5 := cell_kept hv.cell (grownBy_putObj' _ D (.deferred none)) (fun r e => by cases e; exact ⟨_, hK, rfl⟩)
    refine ⟨.int .i64 k, ?_, .inr ⟨k, pre, rfl, ht, hst⟩, hB.trans (belowK_b (w := w) (Nat.le_refl _) W D _ _ (by simp at hD; omega) hK rfl rfl)⟩
    simp [results, Tryd.f14, go_sem, hc5]
theorem chars_Bad (s : ByteArray) (w : World) (hs : s.size ≤ 137438953472) :
    Calls Tryd.prog 14 #[.string s] w fun e w' => e = .returned (.int .i64 (badN (nums s))) ∧ Below w.heap.size w w' := by
  refine (chars_Bad0 s hs w).mono ?_
  have hQ : ∀ (a : Nat) (r : Int), r < 0 → (fun (_ : Nat) r => chB r) a r = false := fun _ r h => neg_ch h
  rintro e w' ⟨⟨rfl, hg⟩ | ⟨k, pre, rfl, ht, g, x, rfl, hg, hx, rfl⟩, hb⟩
  · have := sc_all (fun _ r => chB r) hQ 0 _ hg
    rw [pieces_sum, Nat.zero_add] at this
    refine ⟨ret_int ?_, hb⟩
    unfold badN
    rw [if_pos (show badK (nums s) = _ from this)]
  · have h1 : badK (nums s) = x.1 := sc_stop (fun _ r => chB r) hQ 0 _ g x ht hg hx
    refine ⟨ret_int ?_, hb⟩
    unfold badN
    rw [h1, if_neg]
    intro e
    have h2 := bad_all (nums s)
    rw [h1, decide_eq_true e] at h2
    have h3 := stop_all (fun _ r => chB r) 0 (pieces (nums s)) (pieces_pos _)
    have h4 : ∀ (a : Nat) (l : List (Int × Nat)) (g : List (Nat × Int)), (g ++ [x]) <+: scP a l → allP (fun _ r => chB r) a l = true → chB x.2 = true := by
      intro a l
      induction l generalizing a with
      | nil => intro g h _; have := h.length_le; simp [scP] at this
      | cons p r ih =>
        intro g h ha
        rw [allP, Bool.and_eq_true] at ha
        rw [scP] at h
        split at h
        · rename_i hn; rw [neg_ch hn] at ha; exact absurd ha.1 (by decide)
        · cases g with
          | nil =>
            obtain ⟨t, ht⟩ := h
            have e : x = (a, p.1) := by injection ht
            rw [e]; exact ha.1
          | cons y g =>
            rw [List.cons_append, List.cons_prefix_cons] at h
            exact ih (a + p.2) g h.2 ha.2
    exact absurd (h4 0 _ g ht h2.symm) (by rw [show chB x.2 = false from hx]; decide)
def FrI (w : World) (s : ByteArray) (K : Nat) (Q : Nat → Int → Bool) : List (Nat × Int) → World → Prop :=
  fun pre W => (((Boxed W w.heap.size 30 (.func (.func K) #[] #[]) ∧ Boxed W (w.heap.size + 1) 3 (.int .i64 0)) ∧ Boxed W (w.heap.size + 1 + 1) 9 (.string s)) ∧ Below w.heap.size w W) ∧ goodL Q pre
def FrX (w : World) (Q : Nat → Int → Bool) : Code → List (Nat × Int) → World → Prop :=
  fun c pre W => ((∃ k : Nat, Boxed W (w.heap.size + 1) 3 (.int .i64 k) ∧ stopL Q pre k) ∧ Below w.heap.size w W) ∧ c = .ret
set_option maxRecDepth 100000 in
set_option maxHeartbeats 4000000 in
theorem chars_front_Further0 (s : ByteArray) (hs : s.size ≤ 137438953472) (w : World) :
    Calls Tryd.prog 35 #[.string s, .func (.func 22) #[] #[]] w fun e w' => ((e = .returned (.int .i64 s.size) ∧ goodL (frQ fuB) (scs s)) ∨ (∃ (k : Nat) (pre : List (Nat × Int)), e = .returned (.int .i64 k) ∧ pre <+: scs s ∧ stopL (frQ fuB) pre k)) ∧ Below w.heap.size w w' := by
  refine (callsIn_wide (n := 5)).1 ?_
  refine callsIn_of_wp_marks Tryd.func35 rfl trivial ?_ rfl
  simp only [Tryd.ntmps35, List.size_toArray, List.length_cons, List.length_nil, Nat.reduceAdd, Nat.reduceSub, Array.replicate_succ, Array.replicate_zero, List.push_toArray, List.append_toArray, List.nil_append, List.cons_append]
  gi_wp2_with (refine ⟨trivial, ?_⟩; gi_at_call 37; refine (chars_scalars_in Fence.wide _ trivial rfl _ _).mono ?_; rintro e w' ⟨rfl, rfl⟩)
  have bI := Boxed.new w 30 (.func (.func 22) #[] #[])
  have bO := Boxed.new (w.alloc (.cells #[.func (.func 22) #[] #[]] 30)) 3 (.int .i64 0)
  have bS := Boxed.new ((w.alloc (.cells #[.func (.func 22) #[] #[]] 30)).alloc (.cells #[.int .i64 0] 3)) 9 (.string s)
  rw [World.size_alloc] at bO
  rw [World.size_alloc, World.size_alloc] at bS
  have hB0 : Below w.heap.size w (((w.alloc (.cells #[.func (.func 22) #[] #[]] 30)).alloc (.cells #[.int .i64 0] 3)).alloc (.cells #[.string s] 9)) := (((Below.refl _ w).alloc (Nat.le_refl _) _).alloc (by simp) _).alloc (by simp; omega) _
  refine wpIn_rangeFunc_ownG rfl (by omega) (gf := 46) (lb := #[.pointer (some ⟨w.heap.size + 1 + 1, 0, none⟩)]) rfl trivial (enters_of Tryd.func46 (by kernel_rfl) rfl)
    (chars_scalars_stops _ (by omega) (w.heap.size + 1 + 1) s (by omega) _ (by simp) bS.cell) keepsBox_t (keepsBox_b (by simp)) (Below.refl _ _) (fun _ => rfl)
    (FrI w s 22 (frQ fuB))
    (FrX w (frQ fuB))
    (OwnFrom.and (OwnFrom.and (OwnFrom.and (OwnFrom.and (Own.from (boxed_own _ _ (fun _ => .func (.func 22) #[] #[])) _) (Own.from (boxed_own _ _ (fun _ => .int .i64 0)) _)) (Own.from (boxed_own _ _ (fun _ => .string s)) _)) (ownFrom_below (Nat.le_refl _) (by simp; omega))) (ownFrom_pure _ _))
    (fun _ => OwnFrom.and (OwnFrom.and (Own.from (boxed_ownE (w.heap.size + 1) 3 (fun k : Nat => Value.int .i64 k) (stopL (frQ fuB))) _) (ownFrom_below (Nat.le_refl _) (by simp; omega))) (ownFrom_pure _ _))
    ⟨⟨⟨⟨(bI.alloc _).alloc _, bO.alloc _⟩, bS⟩, hB0⟩, fun x hx => by cases hx⟩
    (fun x => { tmps := #[.string s, .func (.func 22) #[] #[], undef, .pointer (some ⟨w.heap.size, 0, none⟩), .pointer (some ⟨w.heap.size + 1, 0, none⟩), .int .i64 (x.1 : Nat), .int .i64 x.2, .string s, .func (.func 46) #[] #[.pointer (some ⟨w.heap.size + 1 + 1, 0, none⟩)], .int .i64 (x.1 : Nat), .int .i64 x.2, undef, undef, undef, undef, undef, undef, undef, undef, undef, undef, undef, undef, undef, undef, undef, undef], defers := [] }) ?assign ?body ?done ?stop
  case assign =>
    intro l x W K hK
    gi_wp2
    exact hK
  case body =>
    rintro l pre x W ⟨⟨⟨⟨hi, hf⟩, hsb⟩, hB⟩, hpos⟩ hlt
    have hff := hf.frozen
    have hfc := hf.cell
    have hic := hi.cell
    have hsz : w.heap.size + 3 ≤ W.heap.size := hsb.lt
    obtain ⟨at0, r⟩ := x
    have HSTOP : ∀ w', Below W.heap.size W w' → frQ fuB at0 r = false → (w'.cell? ⟨w.heap.size + 1, 0, none⟩ = some (.int .i64 0) ∧ w'.frozen? ⟨w.heap.size + 1, 0, none⟩ = false ∧ KeepsOthers W (w'.setCell ⟨w.heap.size + 1, 0, none⟩ (.int .i64 (at0 : Nat))) ∧ FrX w (frQ fuB) .ret (pre ++ [(at0, r)]) (w'.setCell ⟨w.heap.size + 1, 0, none⟩ (.int .i64 (at0 : Nat)))) := by
      intro w' hb2 hx
      have hf2 : Boxed w' (w.heap.size + 1) 3 (.int .i64 0) := (hb2.block _ hf.lt).trans hf
      exact ⟨hf2.cell, hf2.frozen, (keepsOthers_of_below hb2).trans (KeepsOthers.setCell _ _ _), ⟨⟨at0, hf2.set _, pre, (at0, r), rfl, hpos, hx, rfl⟩, hB.trans ((show Below w.heap.size W w' from hb2.mono (by omega)).setCell (p := ⟨w.heap.size + 1, 0, none⟩) (by simp) _)⟩, rfl⟩
    have HCONT : ∀ w', Below W.heap.size W w' → frQ fuB at0 r = true → (KeepsOthers W w' ∧ KeepsBox (w.heap.size + 1 + 1) W w' ∧ FrI w s 22 (frQ fuB) (pre ++ [(at0, r)]) w') := by
      intro w' hb2 hx
      exact ⟨keepsOthers_of_below hb2, hb2.cell (p := ⟨w.heap.size + 1 + 1, 0, none⟩) hsb.lt, ⟨⟨⟨(hb2.block _ hi.lt).trans hi, (hb2.block _ hf.lt).trans hf⟩, (hb2.block _ hsb.lt).trans hsb⟩, hB.trans (hb2.mono (by omega))⟩, goodL_snoc hpos hx⟩
    have HS := Lib.hid HSTOP
    have HCo := Lib.hid HCONT
    clear HSTOP HCONT
    by_cases h0 : at0 = 0
    · subst h0
      have hb0 : (((0 : Nat) : Int) == 0) = true := rfl
      cases hfi : fiB r with
      | false =>
        have HF := Lib.hid hfi
        have HX := Lib.hid (show frQ fuB 0 r = false by unfold frQ; rw [hfi]; rfl)
        clear hfi
        gi_wp2_with (first | (refine ⟨fun f h => (by cases h), ?_⟩; apply_assumption -exfalso -symm) | (refine ⟨trivial, ?_⟩; apply_assumption -exfalso -symm) | (refine ⟨trivial, ?_⟩; gi_at_call 20; refine (CallsIn.inRound l (callsIn_wide.2 (chars_First r _))).mono ?_; rw [HF.out]; rintro e w' ⟨rfl, hb2⟩; obtain ⟨hfc2, hff2, H1, H2⟩ := HS.out w' hb2 HX.out; have HH := Lib.hid (And.intro H1 H2); clear H1 H2))
        exact ⟨HH.out.1.from _, HH.out.2⟩
      | true =>
        have HF := Lib.hid hfi
        cases hfn : fuB r with
        | false =>
          have HN := Lib.hid hfn
          have HX := Lib.hid (show frQ fuB 0 r = false by unfold frQ; rw [hfn, Bool.and_false])
          clear hfi hfn
          gi_wp2_with (first
            | (refine ⟨fun f h => (by cases h), ?_⟩; apply_assumption -exfalso -symm) | (refine ⟨trivial, ?_⟩; apply_assumption -exfalso -symm)
            | (refine ⟨trivial, ?_⟩; gi_at_call 20; refine (CallsIn.inRound l (callsIn_wide.2 (chars_First r _))).mono ?_; rw [HF.out]; rintro e w1 ⟨rfl, hb1⟩; have hic1 := (hb1.cell (p := ⟨w.heap.size, 0, none⟩) hi.lt).trans hic)
            | (refine ⟨trivial, ?_⟩; gi_at_call 22; refine (CallsIn.inRound l (callsIn_wide.2 (chars_Further r _))).mono ?_; rw [HN.out]; rintro e w' ⟨rfl, hb2⟩; obtain ⟨hfc2, hff2, H1, H2⟩ := HS.out w' (hb1.trans (hb2.mono hb1.size)) HX.out; have HH := Lib.hid (And.intro H1 H2); clear H1 H2))
          exact ⟨HH.out.1.from _, HH.out.2⟩
        | true =>
          have HN := Lib.hid hfn
          have HX := Lib.hid (show frQ fuB 0 r = true by unfold frQ; rw [hfn, hfi]; rfl)
          clear hfi hfn
          gi_wp2_with (first
            | (refine ⟨fun f h => (by cases h), ?_⟩; apply_assumption -exfalso -symm) | (refine ⟨trivial, ?_⟩; apply_assumption -exfalso -symm)
            | (refine ⟨trivial, ?_⟩; gi_at_call 20; refine (CallsIn.inRound l (callsIn_wide.2 (chars_First r _))).mono ?_; rw [HF.out]; rintro e w1 ⟨rfl, hb1⟩; have hic1 := (hb1.cell (p := ⟨w.heap.size, 0, none⟩) hi.lt).trans hic)
            | (refine ⟨trivial, ?_⟩; gi_at_call 22; refine (CallsIn.inRound l (callsIn_wide.2 (chars_Further r _))).mono ?_; rw [HN.out]; rintro e w' ⟨rfl, hb2⟩; have HH := Lib.hid (HCo.out w' (hb1.trans (hb2.mono hb1.size)) HX.out)))
          exact ⟨HH.out.1.from _, HH.out.2.1, HH.out.2.2⟩
    · have hb0 : ((at0 : Int) == 0) = false := by simp; omega
      cases hfn : fuB r with
      | false =>
        have HN := Lib.hid hfn
        have HX := Lib.hid (show frQ fuB at0 r = false by unfold frQ; rw [hfn, Bool.and_false])
        clear hfn
        gi_wp2_with (first | (refine ⟨fun f h => (by cases h), ?_⟩; apply_assumption -exfalso -symm) | (refine ⟨trivial, ?_⟩; apply_assumption -exfalso -symm) | (refine ⟨trivial, ?_⟩; gi_at_call 22; refine (CallsIn.inRound l (callsIn_wide.2 (chars_Further r _))).mono ?_; rw [HN.out]; rintro e w' ⟨rfl, hb2⟩; obtain ⟨hfc2, hff2, H1, H2⟩ := HS.out w' hb2 HX.out; have HH := Lib.hid (And.intro H1 H2); clear H1 H2))
        exact ⟨HH.out.1.from _, HH.out.2⟩
      | true =>
        have HN := Lib.hid hfn
        have HX := Lib.hid (show frQ fuB at0 r = true by unfold frQ; rw [hfn, decide_eq_true h0]; rfl)
        clear hfn
        gi_wp2_with (first | (refine ⟨fun f h => (by cases h), ?_⟩; apply_assumption -exfalso -symm) | (refine ⟨trivial, ?_⟩; apply_assumption -exfalso -symm) | (refine ⟨trivial, ?_⟩; gi_at_call 22; refine (CallsIn.inRound l (callsIn_wide.2 (chars_Further r _))).mono ?_; rw [HN.out]; rintro e w' ⟨rfl, hb2⟩; have HH := Lib.hid (HCo.out w' hb2 HX.out)))
        exact ⟨HH.out.1.from _, HH.out.2.1, HH.out.2.2⟩
  case done =>
    rintro D ys W hD rfl ⟨⟨⟨⟨hi, hf⟩, hsb⟩, hB⟩, hpos⟩ hK
    have hff := hf.frozen
    have hfc := hf.cell
    have hset := hf.set (.int .i64 s.size)
    have HS := Lib.hid hset
    have HKp := Lib.hid ((KeepsOthers.setCell W ⟨w.heap.size + 1, 0, none⟩ (.int .i64 s.size)).same D _ hK rfl)
    have HBl := Lib.hid (hB.setCell (p := ⟨w.heap.size + 1, 0, none⟩) (by simp) (.int .i64 s.size))
    clear hset
    gi_wp2
    have hK' := HKp.out
    refine ⟨by simp, .inl ⟨_, _, rfl, run_takeDeferred hK', ?_⟩⟩
    have hc5 := cell_kept HS.out.cell (grownBy_putObj' _ D (.deferred none)) (fun r e => by cases e; exact ⟨_, hK', rfl⟩)
    refine ⟨.int .i64 s.size, ?_, .inl ⟨rfl, hpos⟩, HBl.out.trans (belowK_b (w := w) (Nat.le_refl _) _ D _ _ (by simp at hD; omega) hK' rfl rfl)⟩
    simp [results, Tryd.f35, go_sem, hc5]
  case stop =>
    rintro D c pre W hD ht ⟨⟨⟨k, hv, hst⟩, hB⟩, rfl⟩ hK
    gi_wp2
    refine ⟨by simp, .inl ⟨_, _, rfl, run_takeDeferred hK, ?_⟩⟩
    have hc5 := cell_kept hv.cell (grownBy_putObj' _ D (.deferred none)) (fun r e => by cases e; exact ⟨_, hK, rfl⟩)
    refine ⟨.int .i64 k, ?_, .inr ⟨k, pre, rfl, ht, hst⟩, hB.trans (belowK_b (w := w) (Nat.le_refl _) W D _ _ (by simp at hD; omega) hK rfl rfl)⟩
    simp [results, Tryd.f35, go_sem, hc5]
theorem chars_front_Further (s : ByteArray) (w : World) (hs : s.size ≤ 137438953472) :
    Calls Tryd.prog 35 #[.string s, .func (.func 22) #[] #[]] w fun e w' => e = .returned (.int .i64 (frontN fuB (nums s))) ∧ Below w.heap.size w w' := by
  refine (chars_front_Further0 s hs w).mono ?_
  have hQ : ∀ (a : Nat) (r : Int), r < 0 → frQ fuB a r = false := frQ_neg fuB (fun _ h => neg_fu h)
  rintro e w' ⟨⟨rfl, hg⟩ | ⟨k, pre, rfl, ht, g, x, rfl, hg, hx, rfl⟩, hb⟩
  · have := sc_all (frQ fuB) hQ 0 _ hg
    rw [pieces_sum, Nat.zero_add, nums_length] at this
    exact ⟨ret_int (by show _ = ((stopP (frQ fuB) 0 (pieces (nums s)) : Nat) : Int); rw [this]), hb⟩
  · have h1 : frontN fuB (nums s) = x.1 := sc_stop (frQ fuB) hQ 0 _ g x ht hg hx
    exact ⟨ret_int (by rw [h1]), hb⟩
set_option maxHeartbeats 1000000 in
theorem chars_Take1 (r : Int) (w : World) : Calls Tryd.prog 36 #[.int .i64 r] w fun e w' => e = .returned (.bool (tkB r)) ∧ Below w.heap.size w w' := by
  by_cases h : r = 58
  · subst h
    go_enter Tryd.func36, Tryd.ntmps36
    go_wp2
    go_ret
    exact ⟨rfl, Below.refl _ _⟩
  · have hb0 : (r == 58) = false := by simpa using h
    have HU := Lib.hid (show tkB r = fuB r by unfold tkB; rw [decide_eq_false h]; rfl)
    go_enter Tryd.func36, Tryd.ntmps36
    go_wp2_with fail
    refine (chars_Further r _).mono ?_
    rintro e w1 ⟨rfl, hb1⟩
    go_wp2
    all_goals
      go_ret
      exact ⟨ret_bool HU.out.symm, hb1⟩
set_option maxRecDepth 100000 in
set_option maxHeartbeats 4000000 in
theorem chars_front_Take10 (s : ByteArray) (hs : s.size ≤ 137438953472) (w : World) :
    Calls Tryd.prog 35 #[.string s, .func (.func 36) #[] #[]] w fun e w' => ((e = .returned (.int .i64 s.size) ∧ goodL (frQ tkB) (scs s)) ∨ (∃ (k : Nat) (pre : List (Nat × Int)), e = .returned (.int .i64 k) ∧ pre <+: scs s ∧ stopL (frQ tkB) pre k)) ∧ Below w.heap.size w w' := by
  refine (callsIn_wide (n := 5)).1 ?_
  refine callsIn_of_wp_marks Tryd.func35 rfl trivial ?_ rfl
  simp only [Tryd.ntmps35, List.size_toArray, List.length_cons, List.length_nil, Nat.reduceAdd, Nat.reduceSub, Array.replicate_succ, Array.replicate_zero, List.push_toArray, List.append_toArray, List.nil_append, List.cons_append]
  gi_wp2_with (refine ⟨trivial, ?_⟩; gi_at_call 37; refine (chars_scalars_in Fence.wide _ trivial rfl _ _).mono ?_; rintro e w' ⟨rfl, rfl⟩)
  have bI := Boxed.new w 30 (.func (.func 36) #[] #[])
  have bO := Boxed.new (w.alloc (.cells #[.func (.func 36) #[] #[]] 30)) 3 (.int .i64 0)
  have bS := Boxed.new ((w.alloc (.cells #[.func (.func 36) #[] #[]] 30)).alloc (.cells #[.int .i64 0] 3)) 9 (.string s)
  rw [World.size_alloc] at bO
  rw [World.size_alloc, World.size_alloc] at bS
  have hB0 : Below w.heap.size w (((w.alloc (.cells #[.func (.func 36) #[] #[]] 30)).alloc (.cells #[.int .i64 0] 3)).alloc (.cells #[.string s] 9)) := (((Below.refl _ w).alloc (Nat.le_refl _) _).alloc (by simp) _).alloc (by simp; omega) _
  refine wpIn_rangeFunc_ownG rfl (by omega) (gf := 46) (lb := #[.pointer (some ⟨w.heap.size + 1 + 1, 0, none⟩)]) rfl trivial (enters_of Tryd.func46 (by kernel_rfl) rfl)
    (chars_scalars_stops _ (by omega) (w.heap.size + 1 + 1) s (by omega) _ (by simp) bS.cell) keepsBox_t (keepsBox_b (by simp)) (Below.refl _ _) (fun _ => rfl)
    (FrI w s 36 (frQ tkB))
    (FrX w (frQ tkB))
    (OwnFrom.and (OwnFrom.and (OwnFrom.and (OwnFrom.and (Own.from (boxed_own _ _ (fun _ => .func (.func 36) #[] #[])) _) (Own.from (boxed_own _ _ (fun _ => .int .i64 0)) _)) (Own.from (boxed_own _ _ (fun _ => .string s)) _)) (ownFrom_below (Nat.le_refl _) (by simp; omega))) (ownFrom_pure _ _))
    (fun _ => OwnFrom.and (OwnFrom.and (Own.from (boxed_ownE (w.heap.size + 1) 3 (fun k : Nat => Value.int .i64 k) (stopL (frQ tkB))) _) (ownFrom_below (Nat.le_refl _) (by simp; omega))) (ownFrom_pure _ _))
    ⟨⟨⟨⟨(bI.alloc _).alloc _, bO.alloc _⟩, bS⟩, hB0⟩, fun x hx => by cases hx⟩
    (fun x => { tmps := #[.string s, .func (.func 36) #[] #[], undef, .pointer (some ⟨w.heap.size, 0, none⟩), .pointer (some ⟨w.heap.size + 1, 0, none⟩), .int .i64 (x.1 : Nat), .int .i64 x.2, .string s, .func (.func 46) #[] #[.pointer (some ⟨w.heap.size + 1 + 1, 0, none⟩)], .int .i64 (x.1 : Nat), .int .i64 x.2, undef, undef, undef, undef, undef, undef, undef, undef, undef, undef, undef, undef, undef, undef, undef, undef], defers := [] }) ?assign ?body ?done ?stop
  case assign =>
    intro l x W K hK
    gi_wp2
    exact hK
  case body =>
    rintro l pre x W ⟨⟨⟨⟨hi, hf⟩, hsb⟩, hB⟩, hpos⟩ hlt
    have hff := hf.frozen
    have hfc := hf.cell
    have hic := hi.cell
    have hsz : w.heap.size + 3 ≤ W.heap.size := hsb.lt
    obtain ⟨at0, r⟩ := x
    have HSTOP : ∀ w', Below W.heap.size W w' → frQ tkB at0 r = false → (w'.cell? ⟨w.heap.size + 1, 0, none⟩ = some (.int .i64 0) ∧ w'.frozen? ⟨w.heap.size + 1, 0, none⟩ = false ∧ KeepsOthers W (w'.setCell ⟨w.heap.size + 1, 0, none⟩ (.int .i64 (at0 : Nat))) ∧ FrX w (frQ tkB) .ret (pre ++ [(at0, r)]) (w'.setCell ⟨w.heap.size + 1, 0, none⟩ (.int .i64 (at0 : Nat)))) := by
      intro w' hb2 hx
      have hf2 : Boxed w' (w.heap.size + 1) 3 (.int .i64 0) := (hb2.block _ hf.lt).trans hf
      exact ⟨hf2.cell, hf2.frozen, (keepsOthers_of_below hb2).trans (KeepsOthers.setCell _ _ _), ⟨⟨at0, hf2.set _, pre, (at0, r), rfl, hpos, hx, rfl⟩, hB.trans ((show Below w.heap.size W w' from hb2.mono (by omega)).setCell (p := ⟨w.heap.size + 1, 0, none⟩) (by simp) _)⟩, rfl⟩
    have HCONT : ∀ w', Below W.heap.size W w' → frQ tkB at0 r = true → (KeepsOthers W w' ∧ KeepsBox (w.heap.size + 1 + 1) W w' ∧ FrI w s 36 (frQ tkB) (pre ++ [(at0, r)]) w') := by
      intro w' hb2 hx
      exact ⟨keepsOthers_of_below hb2, hb2.cell (p := ⟨w.heap.size + 1 + 1, 0, none⟩) hsb.lt, ⟨⟨⟨(hb2.block _ hi.lt).trans hi, (hb2.block _ hf.lt).trans hf⟩, (hb2.block _ hsb.lt).trans hsb⟩, hB.trans (hb2.mono (by omega))⟩, goodL_snoc hpos hx⟩
    have HS := Lib.hid HSTOP
    have HCo := Lib.hid HCONT
    clear HSTOP HCONT
    by_cases h0 : at0 = 0
    · subst h0
      have hb0 : (((0 : Nat) : Int) == 0) = true := rfl
      cases hfi : fiB r with
      | false =>
        have HF := Lib.hid hfi
        have HX := Lib.hid (show frQ tkB 0 r = false by unfold frQ; rw [hfi]; rfl)
        clear hfi
        gi_wp2_with (first | (refine ⟨fun f h => (by cases h), ?_⟩; apply_assumption -exfalso -symm) | (refine ⟨trivial, ?_⟩; apply_assumption -exfalso -symm) | (refine ⟨trivial, ?_⟩; gi_at_call 20; refine (CallsIn.inRound l (callsIn_wide.2 (chars_First r _))).mono ?_; rw [HF.out]; rintro e w' ⟨rfl, hb2⟩; obtain ⟨hfc2, hff2, H1, H2⟩ := HS.out w' hb2 HX.out; have HH := Lib.hid (And.intro H1 H2); clear H1 H2))
        exact ⟨HH.out.1.from _, HH.out.2⟩
      | true =>
        have HF := Lib.hid hfi
        cases hfn : tkB r with
        | false =>
          have HN := Lib.hid hfn
          have HX := Lib.hid (show frQ tkB 0 r = false by unfold frQ; rw [hfn, Bool.and_false])
          clear hfi hfn
          gi_wp2_with (first
            | (refine ⟨fun f h => (by cases h), ?_⟩; apply_assumption -exfalso -symm) | (refine ⟨trivial, ?_⟩; apply_assumption -exfalso -symm)
            | (refine ⟨trivial, ?_⟩; gi_at_call 20; refine (CallsIn.inRound l (callsIn_wide.2 (chars_First r _))).mono ?_; rw [HF.out]; rintro e w1 ⟨rfl, hb1⟩; have hic1 := (hb1.cell (p := ⟨w.heap.size, 0, none⟩) hi.lt).trans hic)
            | (refine ⟨trivial, ?_⟩; gi_at_call 36; refine (CallsIn.inRound l (callsIn_wide.2 (chars_Take1 r _))).mono ?_; rw [HN.out]; rintro e w' ⟨rfl, hb2⟩; obtain ⟨hfc2, hff2, H1, H2⟩ := HS.out w' (hb1.trans (hb2.mono hb1.size)) HX.out; have HH := Lib.hid (And.intro H1 H2); clear H1 H2))
          exact ⟨HH.out.1.from _, HH.out.2⟩
        | true =>
          have HN := Lib.hid hfn
          have HX := Lib.hid (show frQ tkB 0 r = true by unfold frQ; rw [hfn, hfi]; rfl)
          clear hfi hfn
          gi_wp2_with (first
            | (refine ⟨fun f h => (by cases h), ?_⟩; apply_assumption -exfalso -symm) | (refine ⟨trivial, ?_⟩; apply_assumption -exfalso -symm)
            | (refine ⟨trivial, ?_⟩; gi_at_call 20; refine (CallsIn.inRound l (callsIn_wide.2 (chars_First r _))).mono ?_; rw [HF.out]; rintro e w1 ⟨rfl, hb1⟩; have hic1 := (hb1.cell (p := ⟨w.heap.size, 0, none⟩) hi.lt).trans hic)
            | (refine ⟨trivial, ?_⟩; gi_at_call 36; refine (CallsIn.inRound l (callsIn_wide.2 (chars_Take1 r _))).mono ?_; rw [HN.out]; rintro e w' ⟨rfl, hb2⟩; have HH := Lib.hid (HCo.out w' (hb1.trans (hb2.mono hb1.size)) HX.out)))
          exact ⟨HH.out.1.from _, HH.out.2.1, HH.out.2.2⟩
    · have hb0 : ((at0 : Int) == 0) = false := by simp; omega
      cases hfn : tkB r with
      | false =>
        have HN := Lib.hid hfn
        have HX := Lib.hid (show frQ tkB at0 r = false by unfold frQ; rw [hfn, Bool.and_false])
        clear hfn
        gi_wp2_with (first | (refine ⟨fun f h => (by cases h), ?_⟩; apply_assumption -exfalso -symm) | (refine ⟨trivial, ?_⟩; apply_assumption -exfalso -symm) | (refine ⟨trivial, ?_⟩; gi_at_call 36; refine (CallsIn.inRound l (callsIn_wide.2 (chars_Take1 r _))).mono ?_; rw [HN.out]; rintro e w' ⟨rfl, hb2⟩; obtain ⟨hfc2, hff2, H1, H2⟩ := HS.out w' hb2 HX.out; have HH := Lib.hid (And.intro H1 H2); clear H1 H2))
        exact ⟨HH.out.1.from _, HH.out.2⟩
      | true =>
        have HN := Lib.hid hfn
        have HX := Lib.hid (show frQ tkB at0 r = true by unfold frQ; rw [hfn, decide_eq_true h0]; rfl)
        clear hfn
        gi_wp2_with (first | (refine ⟨fun f h => (by cases h), ?_⟩; apply_assumption -exfalso -symm) | (refine ⟨trivial, ?_⟩; apply_assumption -exfalso -symm) | (refine ⟨trivial, ?_⟩; gi_at_call 36; refine (CallsIn.inRound l (callsIn_wide.2 (chars_Take1 r _))).mono ?_; rw [HN.out]; rintro e w' ⟨rfl, hb2⟩; have HH := Lib.hid (HCo.out w' hb2 HX.out)))
        exact ⟨HH.out.1.from _, HH.out.2.1, HH.out.2.2⟩
  case done =>
    rintro D ys W hD rfl ⟨⟨⟨⟨hi, hf⟩, hsb⟩, hB⟩, hpos⟩ hK
    have hff := hf.frozen
    have hfc := hf.cell
    have hset := hf.set (.int .i64 s.size)
    have HS := Lib.hid hset
    have HKp := Lib.hid ((KeepsOthers.setCell W ⟨w.heap.size + 1, 0, none⟩ (.int .i64 s.size)).same D _ hK rfl)
    have HBl := Lib.hid (hB.setCell (p := ⟨w.heap.size + 1, 0, none⟩) (by simp) (.int .i64 s.size))
    clear hset
    gi_wp2
    have hK' := HKp.out
    refine ⟨by simp, .inl ⟨_, _, rfl, run_takeDeferred hK', ?_⟩⟩
    have hc5 := cell_kept HS.out.cell (grownBy_putObj' _ D (.deferred none)) (fun r e => by cases e; exact ⟨_, hK', rfl⟩)
    refine ⟨.int .i64 s.size, ?_, .inl ⟨rfl, hpos⟩, HBl.out.trans (belowK_b (w := w) (Nat.le_refl _) _ D _ _ (by simp at hD; omega) hK' rfl rfl)⟩
    simp [results, Tryd.f35, go_sem, hc5]
  case stop =>
    rintro D c pre W hD ht ⟨⟨⟨k, hv, hst⟩, hB⟩, rfl⟩ hK
    gi_wp2
    refine ⟨by simp, .inl ⟨_, _, rfl, run_takeDeferred hK, ?_⟩⟩
    have hc5 := cell_kept hv.cell (grownBy_putObj' _ D (.deferred none)) (fun r e => by cases e; exact ⟨_, hK, rfl⟩)
    refine ⟨.int .i64 k, ?_, .inr ⟨k, pre, rfl, ht, hst⟩, hB.trans (belowK_b (w := w) (Nat.le_refl _) W D _ _ (by simp at hD; omega) hK rfl rfl)⟩
    simp [results, Tryd.f35, go_sem, hc5]
theorem chars_front_Take1 (s : ByteArray) (w : World) (hs : s.size ≤ 137438953472) :
    Calls Tryd.prog 35 #[.string s, .func (.func 36) #[] #[]] w fun e w' => e = .returned (.int .i64 (frontN tkB (nums s))) ∧ Below w.heap.size w w' := by
  refine (chars_front_Take10 s hs w).mono ?_
  have hQ : ∀ (a : Nat) (r : Int), r < 0 → frQ tkB a r = false := frQ_neg tkB tk_neg
  rintro e w' ⟨⟨rfl, hg⟩ | ⟨k, pre, rfl, ht, g, x, rfl, hg, hx, rfl⟩, hb⟩
  · have := sc_all (frQ tkB) hQ 0 _ hg
    rw [pieces_sum, Nat.zero_add, nums_length] at this
    exact ⟨ret_int (by show _ = ((stopP (frQ tkB) 0 (pieces (nums s)) : Nat) : Int); rw [this]), hb⟩
  · have h1 : frontN tkB (nums s) = x.1 := sc_stop (frQ tkB) hQ 0 _ g x ht hg hx
    exact ⟨ret_int (by rw [h1]), hb⟩
set_option maxHeartbeats 1000000 in
theorem chars_Plain (s : ByteArray) (w : World) (hs : s.size ≤ 137438953472) :
    Calls Tryd.prog 12 #[.string s] w fun e w' => e = .returned (.bool (plainN (nums s))) ∧ Below w.heap.size w w' := by
  by_cases h : s.size = 0
  · have hs0 : s.toList = [] := by rw [ByteArray.toList_eq]; exact List.eq_nil_of_length_eq_zero (by rw [Array.length_toList]; exact h)
    have HP := Lib.hid (show plainN (nums s) = false by rw [show nums s = [] from List.eq_nil_of_length_eq_zero (by rw [nums_length]; exact h)]; rfl)
    go_enter Tryd.func12, Tryd.ntmps12
    go_wp2_with fail
    go_ret
    exact ⟨ret_bool HP.out.symm, Below.refl _ _⟩
  · have hs0 : s.toList ≠ [] := by
      rw [ByteArray.toList_eq]
      intro e
      apply h
      have := congrArg List.length e
      rw [Array.length_toList] at this
      exact this
    go_enter Tryd.func12, Tryd.ntmps12
    go_wp2_with fail
    refine (chars_front_Further s _ hs).mono ?_
    rintro e w1 ⟨rfl, hb1⟩
    go_wp2_with fail
    go_ret
    refine ⟨ret_bool ?_, hb1⟩
    have e1 : s.toList.isEmpty = false := by cases hl : s.toList with
      | nil => exact absurd hl hs0
      | cons a b => rfl
    have e2 : nums s ≠ [] := fun e => h (by have := nums_length s; rw [e] at this; exact this.symm)
    unfold plainN
    rw [e1, decide_eq_true e2, nums_length, Bool.eq_iff_iff]
    simp
    omega
theorem chars_Take (s : ByteArray) (w : World) (hs : s.size ≤ 137438953472) :
    Calls Tryd.prog 13 #[.string s] w fun e w' => e = .returned (.int .i64 (takeN (nums s))) ∧ Below w.heap.size w w' := by
  go_enter Tryd.func13, Tryd.ntmps13
  go_wp2_with fail
  refine (chars_front_Take1 s _ hs).mono ?_
  rintro e w1 ⟨rfl, hb1⟩
  go_wp2
  go_ret
  exact ⟨rfl, hb1⟩
end Go.Proofs.YtkdkoondchbekaaDoor
