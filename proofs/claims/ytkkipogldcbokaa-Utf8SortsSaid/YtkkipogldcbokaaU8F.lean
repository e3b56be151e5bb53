/-
  The walks of utf8: Loose, Valid, Scalars over the iterator; Text.
-/
import Derived.Test.YtkkipogldcbokaaU8E
namespace Go.Proofs.Ytkkipogldcbokaa
open Go.RowKit Go.Shelf
attribute [local go_sem] Oper.semAt_some
/-- what the loop appends at a piece. -/
def mendE (r : Int) : List Int := if isSc r then encN r else [239, 191, 189]
def gotE (l : List (Nat × Int)) : List Int := l.flatMap fun x => mendE x.2
def firstE : List (Nat × Int) → Int
  | [] => -1
  | x :: r => if isSc x.2 then firstE r else x.1
theorem firstE_snoc (x : Nat × Int) : ∀ l : List (Nat × Int), firstE (l ++ [x]) = if firstE l < 0 then (if isSc x.2 then -1 else (x.1 : Int)) else firstE l
  | [] => by simp [firstE]
  | y :: r => by
    rw [List.cons_append, firstE, firstE]
    by_cases h : isSc y.2
    · rw [if_pos h, if_pos h, firstE_snoc x r]
    · rw [if_neg h, if_neg h, if_neg (by omega)]
theorem firstE_lo : ∀ l : List (Nat × Int), -1 ≤ firstE l
  | [] => by simp [firstE]
  | y :: r => by
    rw [firstE]
    split
    · exact firstE_lo r
    · omega
theorem mendE_len (r : Int) : (mendE r).length ≤ 4 := by
  unfold mendE
  split
  · exact encN_len r
  · simp
theorem gotE_len (l : List (Nat × Int)) : (gotE l).length ≤ 4 * l.length := flatMap_len (fun x : Nat × Int => mendE x.2) 4 (fun x => mendE_len x.2) l
theorem gotE_snoc (l : List (Nat × Int)) (x : Nat × Int) : gotE (l ++ [x]) = gotE l ++ mendE x.2 := by simp [gotE]
theorem wrongS : (⟨#[239, 191, 189]⟩ : ByteArray) = strOfNums [239, 191, 189] := rfl
theorem strOfNums_inv (l : List Int) (h : isBs l) : ((strOfNums l).data.toList.map fun c => (c.toNat : Int)) = l := nums_strOfNums l h
/-- an append whose run is known, inside a fence. -/
theorem wpListIn_append_run {F : Fence} {n : Nat} {P : Program} {w : World} {ops : Array Oper} {rest : List Oper} {o : Oper} {a : Act} {Q : Exit → Act → World → Prop}
    (hg : o.guard = none) (s x : Operand) (t tx : TypeId) (hop : o.op = Op.call { callee := Callee.builtin Builtin.append, args := #[s, x], argTypes := #[t, tx] })
    (v xv : Value) (hs : a.eval s = v) (hx : a.eval x = xv) (v' : Value) (w' : World)
    (hr : (Builtin.append_ #[t, tx] o.type #[v, xv]).run P w = .ok v' w') (hK : wpListIn F n P ops Q rest (a.put o.dst v') w') :
    wpListIn F n P ops Q (o :: rest) a w := by
  refine wpListIn_plain hg fun K hK' => ?_
  unfold Oper.wpIn
  refine ⟨?_, ?_⟩
  · simp [Oper.about, hop, resolve, Target.leads, Sem.run_pure]
  · rw [Oper.semAt_plain F _ _ (by rw [hop]; intro c hc'; cases hc')]
    simp [execOp, hop, resolve, invoke, builtin, hs, hx, hr, Result.andThen]
    exact hK' _ _ hK
theorem keepsOthers_of_row {W W' : World} {base : Nat} {e : TypeId} {size : Nat} {v : Value} {n : Nat} {xs : List Value} (hrow : W.ownsRow base e size v n xs) (hg : W.grownBy W' v.ownBlock) : KeepsOthers W W' := by
  refine KeepsOthers.of_grownBy hg fun j o ej hj => ?_
  rcases hrow.2 with ⟨rfl, _⟩ | ⟨g, cap, cur, rfl, _, hgb, _⟩
  · simp [Value.ownBlock] at ej
  · obtain rfl : g = j := by simpa [Value.ownBlock] using ej
    rw [hgb] at hj; cases hj; rfl
theorem cell_ne {W : World} {a b : Nat} (h : a ≠ b) (u : Value) : (W.setCell ⟨b, 0, none⟩ u).cell? ⟨a, 0, none⟩ = W.cell? ⟨a, 0, none⟩ :=
  World.cell?_of_block (Below.heap_setCell W ⟨b, 0, none⟩ u a h)
/-- 'out = append(out, t...)' of a boxed variable: all that a round owes. -/
theorem collect_step {W : World} {B0 base Bs : Nat} {v : Value} {n : Nat} {xs : List Int} (hv : Boxed W B0 41 v) (hrow : W.ownsRow base 5 1 v n (xs.map (Value.int .u8))) (t : ByteArray)
    (hB0 : B0 < base) (hBs : Bs < base) (hne : Bs ≠ B0) (hbase : base ≤ W.heap.size) (hn : n + t.size < 1099511627776) :
    ∃ a l c w1, (Builtin.append_ #[41, 9] 41 #[v, .string t]).run Try.prog W = .ok (.slice a l c) w1 ∧ w1.cell? ⟨B0, 0, none⟩ = some v ∧ w1.frozen? ⟨B0, 0, none⟩ = false ∧
      Boxed (w1.setCell ⟨B0, 0, none⟩ (.slice a l c)) B0 41 (.slice a l c) ∧
      (w1.setCell ⟨B0, 0, none⟩ (.slice a l c)).ownsRow base 5 1 (.slice a l c) (n + t.size) ((xs ++ t.data.toList.map fun c => (c.toNat : Int)).map (Value.int .u8)) ∧
      KeepsOthers W (w1.setCell ⟨B0, 0, none⟩ (.slice a l c)) ∧ KeepsBox Bs W (w1.setCell ⟨B0, 0, none⟩ (.slice a l c)) ∧ Below B0 W (w1.setCell ⟨B0, 0, none⟩ (.slice a l c)) ∧
      (∀ B1 ty u, B1 < base → B1 ≠ B0 → Boxed W B1 ty u → Boxed (w1.setCell ⟨B0, 0, none⟩ (.slice a l c)) B1 ty u) := by
  obtain ⟨v', w1, hr, ho, hg⟩ := app_str_g W base v n xs hrow t hn hbase
  obtain ⟨a, l, c, rfl⟩ := own_slice ho
  have hk : ∀ k, k < base → w1.heap[k]? = W.heap[k]? := fun k hk => hg.block k (by omega) (fun e => by have := (hrow.lt k e.symm).1; omega)
  have hv1 : Boxed w1 B0 41 v := (hk B0 hB0).trans hv
  refine ⟨a, l, c, w1, hr, hv1.cell, hv1.frozen, hv1.set _, ?_, (keepsOthers_of_row hrow hg).trans (KeepsOthers.setCell _ _ _), ?_, ?_, ?_⟩
  · exact ho.kept (grownBy_setCell' w1 B0 _) (.inr (hv1.not_row (by decide) ho).symm)
  · exact (cell_ne hne _).trans (World.cell?_of_block (hk Bs hBs))
  · exact ((Below.refl B0 W).grown hg (by omega) (fun k e => by have := (hrow.lt k e).1; omega)).setCell (p := ⟨B0, 0, none⟩) (Nat.le_refl _) _
  · intro B1 ty u h1 h2 hb
    exact Boxed.other (show Boxed w1 B1 ty u from (hk B1 h1).trans hb) h2 _
set_option maxRecDepth 100000 in
set_option maxHeartbeats 2000000 in
theorem utf8_Loose0 (s : ByteArray) (hs : s.size ≤ 137438953472) (w : World) :
    Calls Try.prog 10 #[.string s] w fun e w' => e = .returned (.tuple #[.string (strOfNums (gotE (els s))), .int .i64 (firstE (els s))]) ∧ Below w.heap.size w w' := by
  refine (callsIn_wide (n := 5)).1 ?_
  refine callsIn_of_wp_marks Try.func10 rfl trivial ?_ rfl
  simp only [Try.ntmps10, List.size_toArray, List.length_cons, List.length_nil, Nat.reduceAdd, Nat.reduceSub, Array.replicate_succ, Array.replicate_zero, List.push_toArray, List.append_toArray, List.nil_append, List.cons_append]
  gi_wp2_with (refine ⟨trivial, ?_⟩; gi_at_call 27; refine (utf8_pieces_in Fence.wide _ trivial rfl _ _).mono ?_; rintro e w' ⟨rfl, rfl⟩)
  have bO := Boxed.new w 41 (.slice none 0 0)
  have bF := Boxed.new (w.alloc (.cells #[.slice none 0 0] 41)) 3 (.int .i64 (-1))
  have bS := Boxed.new ((w.alloc (.cells #[.slice none 0 0] 41)).alloc (.cells #[.int .i64 (-1)] 3)) 9 (.string s)
  rw [World.size_alloc] at bF
  rw [World.size_alloc, World.size_alloc] at bS
  have hB0 : Below w.heap.size w (((w.alloc (.cells #[.slice none 0 0] 41)).alloc (.cells #[.int .i64 (-1)] 3)).alloc (.cells #[.string s] 9)) := (((Below.refl _ w).alloc (Nat.le_refl _) _).alloc (by simp) _).alloc (by simp; omega) _
  refine wpIn_rangeFunc_ownG rfl (by omega) (gf := 30) (lb := #[.pointer (some ⟨w.heap.size + 1 + 1, 0, none⟩)]) rfl trivial (enters_of Try.func30 (by kernel_rfl) rfl)
    (utf8_pieces_stops _ (by omega) (w.heap.size + 1 + 1) s (by omega) _ (by simp) bS.cell) keepsBox_t (keepsBox_b (by simp)) (Below.refl _ _) (fun _ => rfl)
    (fun pre W => ((∃ v, Boxed W w.heap.size 41 v ∧ W.ownsRow (w.heap.size + 3) 5 1 v (gotE pre).length ((gotE pre).map (Value.int .u8)) ∧ True) ∧ Boxed W (w.heap.size + 1) 3 (.int .i64 (firstE pre)) ∧ Boxed W (w.heap.size + 1 + 1) 9 (.string s)) ∧ Below w.heap.size w W)
    (fun _ _ _ => False)
    (OwnFrom.and (OwnFrom.and (Own.from (holdsRow_own (w.heap.size + 3) w.heap.size 41 5 1 (fun pre => (gotE pre).length) (fun pre => (gotE pre).map (Value.int .u8)) (fun _ _ => True)) _) (OwnFrom.and (Own.from (boxed_own _ _ _) _) (Own.from (boxed_own _ _ (fun _ => .string s)) _))) (ownFrom_below (Nat.le_refl _) (by simp; omega)))
    (fun _ _ _ _ _ hs _ _ => hs)
    ⟨⟨⟨_, (bO.alloc _).alloc _, World.ownsRow_nil _ _ _ _, trivial⟩, bF.alloc _, bS⟩, hB0⟩
    (fun x => { tmps := #[.string s, undef, .string ⟨#[]⟩, .int .i64 0, .pointer (some ⟨w.heap.size, 0, none⟩), .pointer (some ⟨w.heap.size + 1, 0, none⟩), .int .i64 (x.1 : Nat), .int .i64 x.2, undef, undef, .string s, .func (.func 30) #[] #[.pointer (some ⟨w.heap.size + 1 + 1, 0, none⟩)], .int .i64 (x.1 : Nat), .int .i64 x.2, undef, undef, undef, undef, undef, undef, undef, undef, undef, undef, undef, undef, undef, undef, undef, undef], defers := [] }) ?assign ?body ?done ?stop
  case assign =>
    intro l x W K hK
    gi_wp2
    exact hK
  case body =>
    rintro l pre x W ⟨⟨⟨v, hv, hrow, _⟩, hf, hsb⟩, hB⟩ hlt
    have hlen := gotE_len pre
    have hlo := firstE_lo pre
    have hml := mendE_len x.2
    have hgs := gotE_snoc pre x
    have hfs := firstE_snoc x pre
    have HG := Lib.hid hgs
    have HFs := Lib.hid hfs
    clear hgs hfs
    have hsz : w.heap.size + 3 ≤ W.heap.size := hsb.lt
    have hx2 : ∀ t : ByteArray, (t.data.toList.map fun c => (c.toNat : Int)) = mendE x.2 → t.size = (mendE x.2).length := fun t ht => by rw [← ht, List.length_map, Array.length_toList]; rfl
    have hstep : ∀ (t : ByteArray), (t.data.toList.map fun c => (c.toNat : Int)) = mendE x.2 → ∀ (w' : World), Boxed w' w.heap.size 41 v → w'.ownsRow (w.heap.size + 3) 5 1 v (gotE pre).length ((gotE pre).map (Value.int .u8)) → w.heap.size + 3 ≤ w'.heap.size → _ :=
      fun t ht w' hv' hr' hs' => collect_step (W := w') (B0 := w.heap.size) (base := w.heap.size + 3) (Bs := w.heap.size + 1 + 1) (v := v) (n := (gotE pre).length) (xs := gotE pre) hv' hr' t (by omega) (by omega) (by omega) hs' (by rw [hx2 t ht]; omega)
    have HS := Lib.hid hstep
    have HL := Lib.hid hx2
    clear hstep hx2
    cases hsx : isSc x.2 with
    | true =>
      have HSx := Lib.hid hsx
      have HM := Lib.hid (show ((encS x.2).data.toList.map fun c => (c.toNat : Int)) = mendE x.2 by rw [encS_nums]; exact (if_pos hsx).symm)
      clear hsx
      gi_wp2_with (first
        | (gi_at_builtin; refine wpListIn_append_run rfl _ _ _ _ rfl _ _ rfl rfl _ _ HR.out ?_)
        | (refine ⟨trivial, ?_⟩; gi_at_call 13; refine (CallsIn.inRound l (callsIn_wide.2 (utf8_Put x.2 _))).mono ?_; rw [HSx.out]; rintro e w' ⟨rfl, hb2⟩; obtain ⟨a, l', c, w1, hr, hc1, hf1, hbx, ho1, hk1, hkb1, hbl1, hob1⟩ := HS.out _ HM.out w' ((hb2.block _ hv.lt).trans hv) (own_below hrow hb2 (Nat.le_refl _)) (Nat.le_trans hsz hb2.size); have HR := Lib.hid hr; clear hr; have hvc := (hb2.cell (p := ⟨w.heap.size, 0, none⟩) hv.lt).trans hv.cell))
      rw [HL.out _ HM.out, HM.out, ← HG.out] at ho1
      have hgl : (gotE (pre ++ [x])).length = (gotE pre).length + (mendE x.2).length := by rw [HG.out, List.length_append]
      rw [← hgl] at ho1
      refine ⟨((keepsOthers_of_below hb2).trans hk1).from _, hkb1.trans (hb2.cell (p := ⟨w.heap.size + 1 + 1, 0, none⟩) hsb.lt), ⟨⟨_, hbx, ho1, trivial⟩, ?_, hob1 _ _ _ (by omega) (by omega) ((hb2.block _ hsb.lt).trans hsb)⟩, hB.trans ((hb2.mono (by omega)).trans hbl1)⟩
      rw [HFs.out, HSx.out, if_pos rfl]
      have : (if firstE pre < 0 then -1 else firstE pre) = firstE pre := by split <;> omega
      rw [this]
      exact hob1 _ _ _ (by omega) (by omega) ((hb2.block _ hf.lt).trans hf)
    | false =>
      have HSx := Lib.hid hsx
      have HM := Lib.hid (show (((⟨#[239, 191, 189]⟩ : ByteArray)).data.toList.map fun c => (c.toNat : Int)) = mendE x.2 by unfold mendE; rw [if_neg (by rw [hsx]; decide)]; rfl)
      clear hsx
      by_cases hfn : firstE pre < 0
      · gi_wp2_with (first
          | (gi_at_builtin; refine wpListIn_append_run rfl _ _ _ _ rfl _ _ rfl rfl _ _ HR.out ?_)
          | (refine ⟨trivial, ?_⟩; gi_at_call 13; refine (CallsIn.inRound l (callsIn_wide.2 (utf8_Put x.2 _))).mono ?_; rw [HSx.out]; rintro e w' ⟨rfl, hb2⟩; have hfb : Boxed w' (w.heap.size + 1) 3 _ := (hb2.block _ hf.lt).trans hf; have hvb : Boxed w' w.heap.size 41 v := (hb2.block _ hv.lt).trans hv; have hfs := hfb.set (.int .i64 (x.1 : Nat)); obtain ⟨a, l', c, w1, hr, hc1, hf1, hbx, ho1, hk1, hkb1, hbl1, hob1⟩ := HS.out _ HM.out (w'.setCell ⟨w.heap.size + 1, 0, none⟩ (.int .i64 (x.1 : Nat))) (hvb.other (by omega) _) (ownsRow_setCell_below (own_below hrow hb2 (Nat.le_refl _)) (by simp) _) (by have := hb2.size; have := (KeepsOthers.setCell w' ⟨w.heap.size + 1, 0, none⟩ (.int .i64 (x.1 : Nat))).size; omega); have HR := Lib.hid hr; clear hr; have hvc := hvb.cell; have hfc := hfb.cell; have hff := hfb.frozen; have HFS := Lib.hid hfs; clear hfs))
        rw [HL.out ⟨#[239, 191, 189]⟩ HM.out] at ho1
        have ho2 : (List.map (fun c : UInt8 => (c.toNat : Int)) [239, 191, 189]) = mendE x.2 := HM.out
        rw [ho2, ← HG.out] at ho1
        have hgl : (gotE (pre ++ [x])).length = (gotE pre).length + (mendE x.2).length := by rw [HG.out, List.length_append]
        rw [← hgl] at ho1
        have hsb2 : Boxed w' (w.heap.size + 1 + 1) 9 (.string s) := (hb2.block _ hsb.lt).trans hsb
        refine ⟨(((keepsOthers_of_below hb2).trans (KeepsOthers.setCell _ _ _)).trans hk1).from _, (hkb1.trans (cell_ne (by omega) _)).trans (hb2.cell (p := ⟨w.heap.size + 1 + 1, 0, none⟩) hsb.lt), ⟨⟨_, hbx, ho1, trivial⟩, ?_, hob1 _ _ _ (by omega) (by omega) (hsb2.other (by omega) _)⟩, hB.trans (((hb2.mono (by omega)).setCell (p := ⟨w.heap.size + 1, 0, none⟩) (by simp) _).trans hbl1)⟩
        rw [HFs.out, HSx.out, if_pos hfn, if_neg (by decide)]
        exact hob1 _ _ _ (by omega) (by omega) HFS.out
      · gi_wp2_with (first
          | (gi_at_builtin; refine wpListIn_append_run rfl _ _ _ _ rfl _ _ rfl rfl _ _ HR.out ?_)
          | (refine ⟨trivial, ?_⟩; gi_at_call 13; refine (CallsIn.inRound l (callsIn_wide.2 (utf8_Put x.2 _))).mono ?_; rw [HSx.out]; rintro e w' ⟨rfl, hb2⟩; obtain ⟨a, l', c, w1, hr, hc1, hf1, hbx, ho1, hk1, hkb1, hbl1, hob1⟩ := HS.out _ HM.out w' ((hb2.block _ hv.lt).trans hv) (own_below hrow hb2 (Nat.le_refl _)) (Nat.le_trans hsz hb2.size); have HR := Lib.hid hr; clear hr; have hvc := (hb2.cell (p := ⟨w.heap.size, 0, none⟩) hv.lt).trans hv.cell; have hfc := (hb2.cell (p := ⟨w.heap.size + 1, 0, none⟩) hf.lt).trans hf.cell))
        rw [HL.out ⟨#[239, 191, 189]⟩ HM.out] at ho1
        have ho2 : (List.map (fun c : UInt8 => (c.toNat : Int)) [239, 191, 189]) = mendE x.2 := HM.out
        rw [ho2, ← HG.out] at ho1
        have hgl : (gotE (pre ++ [x])).length = (gotE pre).length + (mendE x.2).length := by rw [HG.out, List.length_append]
        rw [← hgl] at ho1
        refine ⟨((keepsOthers_of_below hb2).trans hk1).from _, hkb1.trans (hb2.cell (p := ⟨w.heap.size + 1 + 1, 0, none⟩) hsb.lt), ⟨⟨_, hbx, ho1, trivial⟩, ?_, hob1 _ _ _ (by omega) (by omega) ((hb2.block _ hsb.lt).trans hsb)⟩, hB.trans ((hb2.mono (by omega)).trans hbl1)⟩
        rw [HFs.out, if_neg (by omega)]
        exact hob1 _ _ _ (by omega) (by omega) ((hb2.block _ hf.lt).trans hf)
  case done =>
    rintro D ys W hD rfl ⟨⟨⟨v, hv, hrow, _⟩, hf, hsb⟩, hB⟩ hK
    have hvc := hv.cell
    have hfc := hf.cell
    have hcv := conv_own W (w.heap.size + 3) v _ _ hrow
    have hcv1 := conv_own W.drew (w.heap.size + 3) v _ _ hrow
    gi_wp2
    gi_region
    gi_wp2
    have hK' : W.drew.heap[D]? = some (.deferred (some [])) := hK
    refine ⟨by simp, .inl ⟨_, _, rfl, run_takeDeferred hK', ?_⟩⟩
    exact ⟨_, results_tmp2 rfl _ _ _, rfl, (hB.drew).trans (belowK_b (w := w) (Nat.le_refl _) W.drew D _ _ (by simp at hD; omega) hK' rfl rfl)⟩
  case stop =>
    rintro D c pre W _ _ h _
    exact h.elim
theorem piece_sc (s : ByteArray) (p : Int × Nat) (h : p ∈ pieces (nums s)) : isSc p.1 = decide (0 ≤ p.1) := by
  have key : ∀ (f : Nat) (l : List Int), isBs l → ∀ p ∈ pcs f l, isSc p.1 = decide (0 ≤ p.1) := by
    intro f
    induction f with
    | zero => intro l _ p hp; simp [pcs] at hp
    | succ f ih =>
      intro l hl p hp
      cases l with
      | nil => simp [pcs] at hp
      | cons c t =>
        rw [pcs, List.mem_cons] at hp
        rcases hp with rfl | hp
        · by_cases h0 : 0 ≤ (piece (c :: t)).1
          · rw [(piece_enc (c :: t) hl h0).1, decide_eq_true h0]
          · rw [decide_eq_false h0]
            cases hs : isSc (piece (c :: t)).1 with
            | false => rfl
            | true => exact absurd ((isSc_iff _).1 hs).1 h0
        · exact ih _ (fun x hx => hl x (List.mem_of_mem_drop hx)) p hp
  exact key _ _ (nums_isBs s) p h
theorem gotE_posP : ∀ (a : Nat) (l : List (Int × Nat)), (∀ p ∈ l, isSc p.1 = decide (0 ≤ p.1)) → gotE (posP a l) = l.flatMap mend
  | _, [], _ => rfl
  | a, p :: r, h => by
    have ih := gotE_posP (a + p.2) r (fun q hq => h q (List.mem_cons_of_mem _ hq))
    have hp := h p (List.mem_cons_self ..)
    unfold gotE at *
    rw [posP, List.flatMap_cons, List.flatMap_cons, ih]
    congr 1
    unfold mendE mend
    rw [hp]
    by_cases h0 : p.1 < 0
    · rw [if_pos h0, decide_eq_false (by omega)]; rfl
    · rw [if_neg h0, decide_eq_true (by omega)]; rfl
theorem firstE_posP : ∀ (a : Nat) (l : List (Int × Nat)), (∀ p ∈ l, isSc p.1 = decide (0 ≤ p.1)) → firstE (posP a l) = firstP a l
  | _, [], _ => rfl
  | a, p :: r, h => by
    have ih := firstE_posP (a + p.2) r (fun q hq => h q (List.mem_cons_of_mem _ hq))
    have hp := h p (List.mem_cons_self ..)
    rw [posP, firstE, firstP, hp, ih]
    by_cases h0 : p.1 < 0
    · rw [if_pos h0, decide_eq_false (by omega)]; rfl
    · rw [if_neg h0, decide_eq_true (by omega)]; rfl
theorem utf8_Loose (s : ByteArray) (w : World) (hs : s.size ≤ 137438953472) :
    Calls Try.prog 10 #[.string s] w fun e w' => e = .returned (.tuple #[.string (strOfNums (looseN (nums s))), .int .i64 (firstN (nums s))]) ∧ Below w.heap.size w w' := by
  have h := utf8_Loose0 s hs w
  unfold els at h
  rw [gotE_posP 0 _ (piece_sc s), firstE_posP 0 _ (piece_sc s)] at h
  exact h
theorem firstP_ok : ∀ (a : Nat) (l : List (Int × Nat)), decide (firstP a l < 0) = l.all okP
  | _, [] => rfl
  | a, p :: r => by
    rw [firstP, List.all_cons, ← firstP_ok (a + p.2) r]
    unfold okP
    by_cases h : p.1 < 0
    · rw [if_pos h, decide_eq_false (by omega), decide_eq_false (by omega)]; rfl
    · rw [if_neg h, decide_eq_true (show 0 ≤ p.1 by omega)]; rfl
theorem firstN_ok (l : List Int) : decide (firstN l < 0) = okAll l := firstP_ok 0 _
set_option maxHeartbeats 400000 in
theorem utf8_Valid (s : ByteArray) (w : World) (hs : s.size ≤ 137438953472) :
    Calls Try.prog 26 #[.string s] w fun e w' => e = .returned (.bool (okAll (nums s))) ∧ Below w.heap.size w w' := by
  have HV := Lib.hid (firstN_ok (nums s))
  go_enter Try.func26, Try.ntmps26
  go_wp2_with (go_at_call 10; refine (utf8_Loose s _ hs).mono ?_; rintro e w' ⟨rfl, hb⟩)
  go_ret
  exact ⟨ret_bool HV.out, hb⟩
theorem collect_int {W : World} {B0 base Bs : Nat} {v : Value} {n : Nat} {xs : List Int} (hv : Boxed W B0 34 v) (hrow : W.ownsRow base 3 1 v n (xs.map (Value.int .i64))) (x : Int)
    (hB0 : B0 < base) (hBs : Bs < base) (hne : Bs ≠ B0) (hbase : base ≤ W.heap.size) (hn : n < 1099511627776) :
    ∃ a l c w1, (Builtin.append_ #[34, 34] 34 #[v, .slice (some ⟨W.heap.size, 0, none⟩) 1 1]).run Try.prog (W.alloc (.cells #[.int .i64 x] 3)) = .ok (.slice a l c) w1 ∧ w1.cell? ⟨B0, 0, none⟩ = some v ∧ w1.frozen? ⟨B0, 0, none⟩ = false ∧
      Boxed (w1.setCell ⟨B0, 0, none⟩ (.slice a l c)) B0 34 (.slice a l c) ∧
      (w1.setCell ⟨B0, 0, none⟩ (.slice a l c)).ownsRow base 3 1 (.slice a l c) (n + 1) ((xs ++ [x]).map (Value.int .i64)) ∧
      KeepsOthers W (w1.setCell ⟨B0, 0, none⟩ (.slice a l c)) ∧ KeepsBox Bs W (w1.setCell ⟨B0, 0, none⟩ (.slice a l c)) ∧ Below B0 W (w1.setCell ⟨B0, 0, none⟩ (.slice a l c)) ∧
      (∀ B1 ty u, B1 < base → B1 ≠ B0 → Boxed W B1 ty u → Boxed (w1.setCell ⟨B0, 0, none⟩ (.slice a l c)) B1 ty u) := by
  obtain ⟨v', w1, hr, ho, hg⟩ := app_int_g W base v n xs hrow x hn hbase
  obtain ⟨a, l, c, rfl⟩ := own_slice ho
  have hk : ∀ k, k < base → w1.heap[k]? = W.heap[k]? := fun k hk => (hg.block k (by simp; omega) (fun e => by have := (hrow.lt k e.symm).1; omega)).trans (Below.heap_alloc W _ k (by omega))
  have hv1 : Boxed w1 B0 34 v := (hk B0 hB0).trans hv
  refine ⟨a, l, c, w1, hr, hv1.cell, hv1.frozen, hv1.set _, ?_, ((KeepsOthers.alloc _ _).trans (keepsOthers_of_row (hrow.alloc _) hg)).trans (KeepsOthers.setCell _ _ _), ?_, ?_, ?_⟩
  · exact ho.kept (grownBy_setCell' w1 B0 _) (.inr (hv1.not_row (by decide) ho).symm)
  · exact (cell_ne hne _).trans (World.cell?_of_block (hk Bs hBs))
  · exact (((Below.refl B0 W).alloc (by omega) _).grown hg (by simp; omega) (fun k e => by have := (hrow.lt k e).1; omega)).setCell (p := ⟨B0, 0, none⟩) (Nat.le_refl _) _
  · intro B1 ty u h1 h2 hb
    exact Boxed.other (show Boxed w1 B1 ty u from (hk B1 h1).trans hb) h2 _
def posAll (l : List (Nat × Int)) : Prop := ∀ x ∈ l, 0 ≤ x.2
def negSome (l : List (Nat × Int)) : Prop := ∃ x ∈ l, x.2 < 0
theorem posAll_snoc {l : List (Nat × Int)} {x : Nat × Int} (h : posAll l) (hx : 0 ≤ x.2) : posAll (l ++ [x]) := by
  intro y hy
  rw [List.mem_append, List.mem_singleton] at hy
  rcases hy with hy | rfl
  · exact h y hy
  · exact hx
theorem own_mapsnoc (l : List (Nat × Int)) (x : Nat × Int) : (l ++ [x]).map (·.2) = l.map (·.2) ++ [x.2] := by simp
def ScalI (w : World) (s : ByteArray) : List (Nat × Int) → World → Prop :=
  fun pre W => (((∃ v, Boxed W w.heap.size 34 v ∧ W.ownsRow (w.heap.size + 3) 3 1 v pre.length ((pre.map (·.2)).map (Value.int .i64)) ∧ True) ∧ Boxed W (w.heap.size + 1) 4 (.bool false) ∧ Boxed W (w.heap.size + 1 + 1) 9 (.string s)) ∧ Below w.heap.size w W) ∧ posAll pre
def ScalIx (w : World) : Code → List (Nat × Int) → World → Prop :=
  fun c pre W => ((Boxed W w.heap.size 34 (.slice none 0 0) ∧ Boxed W (w.heap.size + 1) 4 (.bool false)) ∧ Below w.heap.size w W) ∧ c = .ret ∧ negSome pre
set_option maxRecDepth 100000 in
set_option maxHeartbeats 2000000 in
theorem utf8_Scalars0 (s : ByteArray) (hs : s.size ≤ 137438953472) (w : World) :
    Calls Try.prog 22 #[.string s] w fun e w' => ∃ v, ((e = .returned (.tuple #[v, .bool true]) ∧ posAll (els s) ∧ w'.ownsRow (w.heap.size + 3) 3 1 v (els s).length (((els s).map (·.2)).map (Value.int .i64))) ∨
      (e = .returned (.tuple #[.slice none 0 0, .bool false]) ∧ negSome (els s))) ∧ Below w.heap.size w w' := by
  refine (callsIn_wide (n := 5)).1 ?_
  refine callsIn_of_wp_marks Try.func22 rfl trivial ?_ rfl
  simp only [Try.ntmps22, List.size_toArray, List.length_cons, List.length_nil, Nat.reduceAdd, Nat.reduceSub, Array.replicate_succ, Array.replicate_zero, List.push_toArray, List.append_toArray, List.nil_append, List.cons_append]
  gi_wp2_with (refine ⟨trivial, ?_⟩; gi_at_call 27; refine (utf8_pieces_in Fence.wide _ trivial rfl _ _).mono ?_; rintro e w' ⟨rfl, rfl⟩)
  have bO := Boxed.new w 34 (.slice none 0 0)
  have bF := Boxed.new (w.alloc (.cells #[.slice none 0 0] 34)) 4 (.bool false)
  have bS := Boxed.new ((w.alloc (.cells #[.slice none 0 0] 34)).alloc (.cells #[.bool false] 4)) 9 (.string s)
  rw [World.size_alloc] at bF
  rw [World.size_alloc, World.size_alloc] at bS
  have hB0 : Below w.heap.size w (((w.alloc (.cells #[.slice none 0 0] 34)).alloc (.cells #[.bool false] 4)).alloc (.cells #[.string s] 9)) := (((Below.refl _ w).alloc (Nat.le_refl _) _).alloc (by simp) _).alloc (by simp; omega) _
  refine wpIn_rangeFunc_ownG rfl (by omega) (gf := 30) (lb := #[.pointer (some ⟨w.heap.size + 1 + 1, 0, none⟩)]) rfl trivial (enters_of Try.func30 (by kernel_rfl) rfl)
    (utf8_pieces_stops _ (by omega) (w.heap.size + 1 + 1) s (by omega) _ (by simp) bS.cell) keepsBox_t (keepsBox_b (by simp)) (Below.refl _ _) (fun _ => rfl)
    (ScalI w s)
    (ScalIx w)
    (OwnFrom.and (OwnFrom.and (OwnFrom.and (Own.from (holdsRow_own (w.heap.size + 3) w.heap.size 34 3 1 (fun pre : List (Nat × Int) => pre.length) (fun pre : List (Nat × Int) => (pre.map (·.2)).map (Value.int .i64)) (fun _ _ => True)) _) (OwnFrom.and (Own.from (boxed_own _ _ (fun _ => .bool false)) _) (Own.from (boxed_own _ _ (fun _ => .string s)) _))) (ownFrom_below (Nat.le_refl _) (by simp; omega))) (ownFrom_pure _ _))
    (fun _ => OwnFrom.and (OwnFrom.and (OwnFrom.and (Own.from (boxed_own _ _ (fun _ => .slice none 0 0)) _) (Own.from (boxed_own _ _ (fun _ => .bool false)) _)) (ownFrom_below (Nat.le_refl _) (by simp; omega))) (ownFrom_pure _ _))
    ⟨⟨⟨⟨_, (bO.alloc _).alloc _, World.ownsRow_nil _ _ _ _, trivial⟩, bF.alloc _, bS⟩, hB0⟩, fun x hx => by cases hx⟩
    (fun x => { tmps := #[.string s, undef, .pointer (some ⟨w.heap.size, 0, none⟩), .pointer (some ⟨w.heap.size + 1, 0, none⟩), undef, .int .i64 x.2, .string s, .func (.func 30) #[] #[.pointer (some ⟨w.heap.size + 1 + 1, 0, none⟩)], .int .i64 (x.1 : Nat), .int .i64 x.2, undef, undef, undef, undef, undef, undef, undef], defers := [] }) ?assign ?body ?done ?stop
  case assign =>
    intro l x W K hK
    gi_wp2
    exact hK
  case body =>
    rintro l pre x W ⟨⟨⟨⟨v, hv, hrow, _⟩, hf, hsb⟩, hB⟩, hpos⟩ hlt
    have hvc := hv.cell
    have hvf := hv.frozen
    have hff := hf.frozen
    have hfc := hf.cell
    have hsz : w.heap.size + 3 ≤ W.heap.size := hsb.lt
    by_cases hx : x.2 < 0
    · have hset1 := hv.set (.slice none 0 0)
      have hset2 := (hf.other (B' := w.heap.size) (by omega) (.slice none 0 0)).set (.bool false)
      have HS1 := Lib.hid hset1
      have HS2 := Lib.hid hset2
      have hfc2 := (hf.other (B' := w.heap.size) (by omega) (.slice none 0 0)).cell
      have hff2 := (hf.other (B' := w.heap.size) (by omega) (.slice none 0 0)).frozen
      clear hset1 hset2
      gi_wp2
      exact ⟨((KeepsOthers.setCell _ _ _).trans (KeepsOthers.setCell _ _ _)).from _, ⟨⟨HS1.out.other (by omega) _, HS2.out⟩, (hB.setCell (p := ⟨w.heap.size, 0, none⟩) (Nat.le_refl _) _).setCell (p := ⟨w.heap.size + 1, 0, none⟩) (by simp) _⟩, rfl, x, by simp, hx⟩
    · obtain ⟨a, l', c, w1, hr, hc1, hf1, hbx, ho1, hk1, hkb1, hbl1, hob1⟩ := collect_int (W := W) (B0 := w.heap.size) (base := w.heap.size + 3) (Bs := w.heap.size + 1 + 1) (v := v) (n := pre.length) (xs := pre.map (·.2)) hv hrow x.2 (by omega) (by omega) (by omega) hsz (by omega)
      have HR := Lib.hid hr
      clear hr
      gi_wp2_with (gi_at_builtin; refine wpListIn_append_run rfl _ _ _ _ rfl _ _ rfl rfl _ _ HR.out ?_)
      rw [← own_mapsnoc] at ho1
      exact ⟨hk1.from _, hkb1, ⟨⟨⟨_, hbx, by rw [List.length_append]; exact ho1, trivial⟩, hob1 _ _ _ (by omega) (by omega) hf, hob1 _ _ _ (by omega) (by omega) hsb⟩, hB.trans hbl1⟩, posAll_snoc hpos (by omega)⟩
  case done =>
    rintro D ys W hD rfl ⟨⟨⟨⟨v, hv, hrow, _⟩, hf, hsb⟩, hB⟩, hpos⟩ hK
    have hvc := hv.cell
    have hvf := hv.frozen
    have hff := hf.frozen
    have hfc := hf.cell
    obtain ⟨a, l', c, rfl⟩ := own_slice hrow
    have hset1 := hv.set (.slice a l' c)
    have hset2 := (hf.other (B' := w.heap.size) (by omega) (.slice a l' c)).set (.bool true)
    have HS1 := Lib.hid hset1
    have HS2 := Lib.hid hset2
    have hfc2 := (hf.other (B' := w.heap.size) (by omega) (.slice a l' c)).cell
    have hff2 := (hf.other (B' := w.heap.size) (by omega) (.slice a l' c)).frozen
    have hsame : ∀ (u : World), u = (W.setCell ⟨w.heap.size, 0, none⟩ (.slice a l' c)).setCell ⟨w.heap.size + 1, 0, none⟩ (.bool true) → u.ownsRow (w.heap.size + 3) 3 1 (.slice a l' c) (els s).length (((els s).map (·.2)).map (Value.int .i64)) := by
      rintro u rfl
      exact ownsRow_setCell_below (ownsRow_setCell_below hrow (by simp) _) (by simp) _
    have HO := Lib.hid hsame
    have HKp := Lib.hid (((KeepsOthers.setCell W ⟨w.heap.size, 0, none⟩ (.slice a l' c)).trans (KeepsOthers.setCell _ ⟨w.heap.size + 1, 0, none⟩ (.bool true))).same D _ hK rfl)
    have HBl := Lib.hid ((hB.setCell (p := ⟨w.heap.size, 0, none⟩) (Nat.le_refl _) (.slice a l' c)).setCell (p := ⟨w.heap.size + 1, 0, none⟩) (by simp) (.bool true))
    clear hset1 hset2 hsame
    gi_wp2
    have hK' := HKp.out
    refine ⟨by simp, .inl ⟨_, _, rfl, run_takeDeferred hK', ?_⟩⟩
    have hc5 := cell_kept (HS1.out.other (by omega) (B' := w.heap.size + 1) (.bool true)).cell (grownBy_putObj' _ D (.deferred none)) (fun r e => by cases e; exact ⟨_, hK', rfl⟩)
    have hc6 := cell_kept HS2.out.cell (grownBy_putObj' _ D (.deferred none)) (fun r e => by cases e; exact ⟨_, hK', rfl⟩)
    refine ⟨.tuple #[.slice a l' c, .bool true], ?_, .slice a l' c, .inl ⟨rfl, hpos, ownsRow_putObj (HO.out _ rfl) _ hK' rfl⟩, HBl.out.trans (belowK_b (w := w) (Nat.le_refl _) _ D _ _ (by simp at hD; omega) hK' rfl rfl)⟩
    simp [results, Try.f22, go_sem, hc5, hc6]
  case stop =>
    rintro D c pre W hD ⟨t, ht⟩ ⟨⟨⟨hv, hf⟩, hB⟩, rfl, x, hx, hx0⟩ hK
    gi_wp2
    refine ⟨by simp, .inl ⟨_, _, rfl, run_takeDeferred hK, ?_⟩⟩
    have hc5 := cell_kept hv.cell (grownBy_putObj' _ D (.deferred none)) (fun r e => by cases e; exact ⟨_, hK, rfl⟩)
    have hc6 := cell_kept hf.cell (grownBy_putObj' _ D (.deferred none)) (fun r e => by cases e; exact ⟨_, hK, rfl⟩)
    refine ⟨.tuple #[.slice none 0 0, .bool false], ?_, .slice none 0 0, .inr ⟨rfl, x, by rw [← ht]; exact List.mem_append_left _ hx, hx0⟩, hB.trans (belowK_b (w := w) (Nat.le_refl _) W D _ _ (by simp at hD; omega) hK rfl rfl)⟩
    simp [results, Try.f22, go_sem, hc5, hc6]
theorem posAll_okAll (s : ByteArray) : (posAll (els s) → okAll (nums s) = true ∧ (els s).map (·.2) = (pieces (nums s)).map (·.1)) ∧ (negSome (els s) → okAll (nums s) = false) := by
  have key : ∀ (a : Nat) (l : List (Int × Nat)), (posAll (posP a l) → l.all okP = true) ∧ (negSome (posP a l) → l.all okP = false) ∧ (posP a l).map (·.2) = l.map (·.1) := by
    intro a l
    induction l generalizing a with
    | nil => exact ⟨fun _ => rfl, (fun ⟨x, hx, _⟩ => by cases hx), rfl⟩
    | cons p r ih =>
      obtain ⟨h1, h2, h3⟩ := ih (a + p.2)
      rw [posP, List.all_cons]
      refine ⟨fun h => ?_, fun ⟨x, hx, h0⟩ => ?_, by rw [List.map_cons, List.map_cons, h3]⟩
      · have hp : okP p = true := decide_eq_true (h (a, p.1) (List.mem_cons_self ..))
        rw [hp, h1 fun x hx => h x (List.mem_cons_of_mem _ hx)]; rfl
      · rw [List.mem_cons] at hx
        rcases hx with rfl | hx
        · have hp : okP p = false := decide_eq_false (by show ¬ 0 ≤ p.1; have : p.1 < 0 := h0; omega)
          rw [hp]; rfl
        · rw [h2 ⟨x, hx, h0⟩, Bool.and_false]
  obtain ⟨h1, h2, h3⟩ := key 0 (pieces (nums s))
  exact ⟨fun h => ⟨h1 h, h3⟩, h2⟩
theorem ownsRow_base {w : World} {base base' : Nat} {e : TypeId} {size : Nat} {v : Value} {n : Nat} {xs : List Value} (h : w.ownsRow base e size v n xs) (hb : base' ≤ base) : w.ownsRow base' e size v n xs :=
  ⟨h.1, h.2.elim .inl fun ⟨g, cap, cur, h0, h1, h2⟩ => .inr ⟨g, cap, cur, h0, Nat.le_trans hb h1, h2⟩⟩
theorem utf8_Scalars (s : ByteArray) (w : World) (hs : s.size ≤ 137438953472) :
    Calls Try.prog 22 #[.string s] w fun e w' => ∃ v, e = .returned (.tuple #[v, .bool (okAll (nums s))]) ∧ w'.ownsRow w.heap.size 3 1 v (scalL (nums s)).length ((scalL (nums s)).map (Value.int .i64)) ∧ Below w.heap.size w w' := by
  refine (utf8_Scalars0 s hs w).mono ?_
  rintro e w' ⟨v, ⟨rfl, hp, ho⟩ | ⟨rfl, hn⟩, hb⟩
  · obtain ⟨h1, h2⟩ := (posAll_okAll s).1 hp
    have hsc : scalL (nums s) = (els s).map (·.2) := by unfold scalL; rw [if_pos h1, h2]
    refine ⟨v, by rw [h1], ?_, hb⟩
    rw [hsc, List.length_map]
    exact ownsRow_base ho (by omega)
  · have h1 := (posAll_okAll s).2 hn
    have hsc : scalL (nums s) = [] := by unfold scalL; rw [if_neg (by rw [h1]; decide)]
    refine ⟨_, by rw [h1], ?_, hb⟩
    rw [hsc]
    exact World.ownsRow_nil _ _ _ _
end Go.Proofs.Ytkkipogldcbokaa
