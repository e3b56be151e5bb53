/-
  Parts U8F U8N UtP UtA of this seat's texts, in one file: contracts of functions that the law reaches, and the plain laws behind them. No condition.
-/
import Derived.Test.YthahfoliblgegaaGreatDoorG2
import Derived.Test.YthahfoliblgegaaGreatDoorG1
import Derived.BigQuiet
/- 
  The walks of utf8: Loose, Valid, Scalars over the iterator; Text.
 -/
namespace Go.Proofs.YthahfoliblgegaaGreatDoor
open Go.RowKit Go.Shelf
attribute [local go_sem] Oper.semAt_some
/-- what the loop appends at a piece. -/
def mendE (r : Int) : List Int := if isSc r then encN r else [239, 191, 189]
def gotE (l : List (Nat × Int)) : List Int := l.flatMap fun x => mendE x.2
def firstE : List (Nat × Int) → Int
  | [] => -1
  | x :: r => if isSc x.2 then firstE r else x.1
theorem firstE_snoc (x : Nat × Int) : ∀ l : List (Nat × Int), firstE (l ++ [x]) = if firstE l < 0 then (if isSc x.2 then -1 else (x.1 : Int)) else firstE l
  | [] => by simp [firstE]
  | y :: r => by
    rw [List.cons_append, firstE, firstE]
    by_cases h : isSc y.2
    · rw [if_pos h, if_pos h, firstE_snoc x r]
    · rw [if_neg h, if_neg h, if_neg (by omega)]
theorem firstE_lo : ∀ l : List (Nat × Int), -1 ≤ firstE l
  | [] => by simp [firstE]
  | y :: r => by
    rw [firstE]
    split
    · exact firstE_lo r
    · omega
theorem mendE_len (r : Int) : (mendE r).length ≤ 4 := by
  unfold mendE
  split
  · exact encN_len r
  · simp
theorem gotE_len (l : List (Nat × Int)) : (gotE l).length ≤ 4 * l.length := flatMap_len (fun x : Nat × Int => mendE x.2) 4 (fun x => mendE_len x.2) l
theorem gotE_snoc (l : List (Nat × Int)) (x : Nat × Int) : gotE (l ++ [x]) = gotE l ++ mendE x.2 := by simp [gotE]
theorem wrongS : (⟨#[239, 191, 189]⟩ : ByteArray) = strOfNums [239, 191, 189] := rfl
theorem strOfNums_inv (l : List Int) (h : isBs l) : ((strOfNums l).data.toList.map fun c => (c.toNat : Int)) = l := nums_strOfNums l h
/-- an append whose run is known, inside a fence. -/
theorem wpListIn_append_run {F : Fence} {n : Nat} {P : Program} {w : World} {ops : Array Oper} {rest : List Oper} {o : Oper} {a : Act} {Q : Exit → Act → World → Prop}
    (hg : o.guard = none) (s x : Operand) (t tx : TypeId) (hop : o.op = Op.call { callee := Callee.builtin Builtin.append, args := #[s, x], argTypes := #[t, tx] })
    (v xv : Value) (hs : a.eval s = v) (hx : a.eval x = xv) (v' : Value) (w' : World)
    (hr : (Builtin.append_ #[t, tx] o.type #[v, xv]).run P w = .ok v' w') (hK : wpListIn F n P ops Q rest (a.put o.dst v') w') :
    wpListIn F n P ops Q (o :: rest) a w := by
  refine wpListIn_plain hg fun K hK' => ?_
  unfold Oper.wpIn
  refine ⟨?_, ?_⟩
  · simp [Oper.about, hop, resolve, Target.leads, Sem.run_pure]
  · rw [Oper.semAt_plain F _ _ (by rw [hop]; intro c hc'; cases hc')]
    simp [execOp, hop, resolve, invoke, builtin, hs, hx, hr, Result.andThen]
    exact hK' _ _ hK
theorem keepsOthers_of_row {W W' : World} {base : Nat} {e : TypeId} {size : Nat} {v : Value} {n : Nat} {xs : List Value} (hrow : W.ownsRow base e size v n xs) (hg : W.grownBy W' v.ownBlock) : KeepsOthers W W' := by
  refine KeepsOthers.of_grownBy hg fun j o ej hj => ?_
  rcases hrow.2 with ⟨rfl, _⟩ | ⟨g, cap, cur, rfl, _, hgb, _⟩
  · simp [Value.ownBlock] at ej
  · obtain rfl : g = j := by simpa [Value.ownBlock] using ej
    rw [hgb] at hj; cases hj; rfl
theorem cell_ne {W : World} {a b : Nat} (h : a ≠ b) (u : Value) : (W.setCell ⟨b, 0, none⟩ u).cell? ⟨a, 0, none⟩ = W.cell? ⟨a, 0, none⟩ :=
  World.cell?_of_block (Below.heap_setCell W ⟨b, 0, none⟩ u a h)
/-- 'out = append(out, t...)' of a boxed variable: all that a round owes. -/
theorem collect_step {W : World} {B0 base Bs : Nat} {v : Value} {n : Nat} {xs : List Int} (hv : Boxed W B0 104 v) (hrow : W.ownsRow base 5 1 v n (xs.map (Value.int .u8))) (t : ByteArray)
    (hB0 : B0 < base) (hBs : Bs < base) (hne : Bs ≠ B0) (hbase : base ≤ W.heap.size) (hn : n + t.size < 1099511627776) :
    ∃ a l c w1, (Builtin.append_ #[104, 9] 104 #[v, .string t]).run Tryz.prog W = .ok (.slice a l c) w1 ∧ w1.cell? ⟨B0, 0, none⟩ = some v ∧ w1.frozen? ⟨B0, 0, none⟩ = false ∧
      Boxed (w1.setCell ⟨B0, 0, none⟩ (.slice a l c)) B0 104 (.slice a l c) ∧
      (w1.setCell ⟨B0, 0, none⟩ (.slice a l c)).ownsRow base 5 1 (.slice a l c) (n + t.size) ((xs ++ t.data.toList.map fun c => (c.toNat : Int)).map (Value.int .u8)) ∧
      KeepsOthers W (w1.setCell ⟨B0, 0, none⟩ (.slice a l c)) ∧ KeepsBox Bs W (w1.setCell ⟨B0, 0, none⟩ (.slice a l c)) ∧ Below B0 W (w1.setCell ⟨B0, 0, none⟩ (.slice a l c)) ∧
      (∀ B1 ty u, B1 < base → B1 ≠ B0 → Boxed W B1 ty u → Boxed (w1.setCell ⟨B0, 0, none⟩ (.slice a l c)) B1 ty u) := by
  obtain ⟨v', w1, hr, ho, hg⟩ := app_str_g W base v n xs hrow t hn hbase
  obtain ⟨a, l, c, rfl⟩ := own_slice ho
  have hk : ∀ k, k < base → w1.heap[k]? = W.heap[k]? := fun k hk => hg.block k (by omega) (fun e => by have := (hrow.lt k e.symm).1; omega)
  have hv1 : Boxed w1 B0 104 v := (hk B0 hB0).trans hv
  refine ⟨a, l, c, w1, hr, hv1.cell, hv1.frozen, hv1.set _, ?_, (keepsOthers_of_row hrow hg).trans (KeepsOthers.setCell _ _ _), ?_, ?_, ?_⟩
  · exact ho.kept (grownBy_setCell' w1 B0 _) (.inr (hv1.not_row (by decide) ho).symm)
  · exact (cell_ne hne _).trans (World.cell?_of_block (hk Bs hBs))
  · exact ((Below.refl B0 W).grown hg (by omega) (fun k e => by have := (hrow.lt k e).1; omega)).setCell (p := ⟨B0, 0, none⟩) (Nat.le_refl _) _
  · intro B1 ty u h1 h2 hb
    exact Boxed.other (show Boxed w1 B1 ty u from (hk B1 h1).trans hb) h2 _
set_option maxRecDepth 100000 in
set_option maxHeartbeats 2000000 in
theorem utf8_Loose0 (s : ByteArray) (hs : s.size ≤ 137438953472) (w : World) :
    Calls Tryz.prog 76 #[.string s] w fun e w' => e = .returned (.tuple #[.string (strOfNums (gotE (els s))), .int .i64 (firstE (els s))]) ∧ Below w.heap.size w w' := by
  refine (callsIn_wide (n := 5)).1 ?_
  refine callsIn_of_wp_marks Tryz.func76 rfl trivial ?_ rfl
  simp only [Tryz.ntmps76, List.size_toArray, List.length_cons, List.length_nil, Nat.reduceAdd, Nat.reduceSub, Array.replicate_succ, Array.replicate_zero, List.push_toArray, List.append_toArray, List.nil_append, List.cons_append]
  gi_wp2_with (refine ⟨trivial, ?_⟩; gi_at_call 117; refine (utf8_pieces_in Fence.wide _ trivial rfl _ _).mono ?_; rintro e w' ⟨rfl, rfl⟩)
  have bO := Boxed.new w 104 (.slice none 0 0)
  have bF := Boxed.new (w.alloc (.cells #[.slice none 0 0] 104)) 3 (.int .i64 (-1))
  have bS := Boxed.new ((w.alloc (.cells #[.slice none 0 0] 104)).alloc (.cells #[.int .i64 (-1)] 3)) 9 (.string s)
  rw [World.size_alloc] at bF
  rw [World.size_alloc, World.size_alloc] at bS
  have hB0 : Below w.heap.size w (((w.alloc (.cells #[.slice none 0 0] 104)).alloc (.cells #[.int .i64 (-1)] 3)).alloc (.cells #[.string s] 9)) := (((Below.refl _ w).alloc (Nat.le_refl _) _).alloc (by simp) _).alloc (by simp; omega) _
  refine wpIn_rangeFunc_ownG rfl (by omega) (gf := 144) (lb := #[.pointer (some ⟨w.heap.size + 1 + 1, 0, none⟩)]) rfl trivial (enters_of Tryz.func144 (by kernel_rfl) rfl)
    (utf8_pieces_stops _ (by omega) (w.heap.size + 1 + 1) s (by omega) _ (by simp) bS.cell) keepsBox_t (keepsBox_b (by simp)) (Below.refl _ _) (fun _ => rfl)
    (fun pre W => ((∃ v, Boxed W w.heap.size 104 v ∧ W.ownsRow (w.heap.size + 3) 5 1 v (gotE pre).length ((gotE pre).map (Value.int .u8)) ∧ True) ∧ Boxed W (w.heap.size + 1) 3 (.int .i64 (firstE pre)) ∧ Boxed W (w.heap.size + 1 + 1) 9 (.string s)) ∧ Below w.heap.size w W)
    (fun _ _ _ => False)
    (OwnFrom.and (OwnFrom.and (Own.from (holdsRow_own (w.heap.size + 3) w.heap.size 104 5 1 (fun pre => (gotE pre).length) (fun pre => (gotE pre).map (Value.int .u8)) (fun _ _ => True)) _) (OwnFrom.and (Own.from (boxed_own _ _ _) _) (Own.from (boxed_own _ _ (fun _ => .string s)) _))) (ownFrom_below (Nat.le_refl _) (by simp; omega)))
    (fun _ _ _ _ _ hs _ _ => hs)
    ⟨⟨⟨_, (bO.alloc _).alloc _, World.ownsRow_nil _ _ _ _, trivial⟩, bF.alloc _, bS⟩, hB0⟩
    (fun x => { tmps := #[.string s, undef, .string ⟨#[]⟩, .int .i64 0, .pointer (some ⟨w.heap.size, 0, none⟩), .pointer (some ⟨w.heap.size + 1, 0, none⟩), .int .i64 (x.1 : Nat), .int .i64 x.2, undef, undef, .string s, .func (.func 144) #[] #[.pointer (some ⟨w.heap.size + 1 + 1, 0, none⟩)], .int .i64 (x.1 : Nat), .int .i64 x.2, undef, undef, undef, undef, undef, undef, undef, undef, undef, undef, undef, undef, undef, undef, undef, undef], defers := [] }) ?assign ?body ?done ?stop
  case assign =>
    intro l x W K hK
    gi_wp2
    exact hK
  case body =>
    rintro l pre x W ⟨⟨⟨v, hv, hrow, _⟩, hf, hsb⟩, hB⟩ hlt
    have hlen := gotE_len pre
    have hlo := firstE_lo pre
    have hml := mendE_len x.2
    have hgs := gotE_snoc pre x
    have hfs := firstE_snoc x pre
    have HG := Lib.hid hgs
    have HFs := Lib.hid hfs
    clear hgs hfs
    have hsz : w.heap.size + 3 ≤ W.heap.size := hsb.lt
    have hx2 : ∀ t : ByteArray, (t.data.toList.map fun c => (c.toNat : Int)) = mendE x.2 → t.size = (mendE x.2).length := fun t ht => by rw [← ht, List.length_map, Array.length_toList]; rfl
    have hstep : ∀ (t : ByteArray), (t.data.toList.map fun c => (c.toNat : Int)) = mendE x.2 → ∀ (w' : World), Boxed w' w.heap.size 104 v → w'.ownsRow (w.heap.size + 3) 5 1 v (gotE pre).length ((gotE pre).map (Value.int .u8)) → w.heap.size + 3 ≤ w'.heap.size → _ :=
      fun t ht w' hv' hr' hs' => collect_step (W := w') (B0 := w.heap.size) (base := w.heap.size + 3) (Bs := w.heap.size + 1 + 1) (v := v) (n := (gotE pre).length) (xs := gotE pre) hv' hr' t (by omega) (by omega) (by omega) hs' (by rw [hx2 t ht]; omega)
    have HS := Lib.hid hstep
    have HL := Lib.hid hx2
    clear hstep hx2
    cases hsx : isSc x.2 with
    | true =>
      have HSx := Lib.hid hsx
      have HM := Lib.hid (show ((encS x.2).data.toList.map fun c => (c.toNat : Int)) = mendE x.2 by rw [encS_nums]; exact (if_pos hsx).symm)
      clear hsx
      gi_wp2_with (first
        | (gi_at_builtin; refine wpListIn_append_run rfl _ _ _ _ rfl _ _ rfl rfl _ _ HR.out ?_)
        | (refine ⟨trivial, ?_⟩; gi_at_call 118; refine (CallsIn.inRound l (callsIn_wide.2 (utf8_Put x.2 _))).mono ?_; rw [HSx.out]; rintro e w' ⟨rfl, hb2⟩; obtain ⟨a, l', c, w1, hr, hc1, hf1, hbx, ho1, hk1, hkb1, hbl1, hob1⟩ := HS.out _ HM.out w' ((hb2.block _ hv.lt).trans hv) (own_below hrow hb2 (Nat.le_refl _)) (Nat.le_trans hsz hb2.size); have HR := Lib.hid hr; clear hr; have hvc := (hb2.cell (p := ⟨w.heap.size, 0, none⟩) hv.lt).trans hv.cell))
      rw [HL.out _ HM.out, HM.out, ← HG.out] at ho1
      have hgl : (gotE (pre ++ [x])).length = (gotE pre).length + (mendE x.2).length := by rw [HG.out, List.length_append]
      rw [← hgl] at ho1
      refine ⟨((keepsOthers_of_below hb2).trans hk1).from _, hkb1.trans (hb2.cell (p := ⟨w.heap.size + 1 + 1, 0, none⟩) hsb.lt), ⟨⟨_, hbx, ho1, trivial⟩, ?_, hob1 _ _ _ (by omega) (by omega) ((hb2.block _ hsb.lt).trans hsb)⟩, hB.trans ((hb2.mono (by omega)).trans hbl1)⟩
      rw [HFs.out, HSx.out, if_pos rfl]
      have : (if firstE pre < 0 then -1 else firstE pre) = firstE pre := by split <;> omega
      rw [this]
      exact hob1 _ _ _ (by omega) (by omega) ((hb2.block _ hf.lt).trans hf)
    | false =>
      have HSx := Lib.hid hsx
      have HM := Lib.hid (show (((⟨#[239, 191, 189]⟩ : ByteArray)).data.toList.map fun c => (c.toNat : Int)) = mendE x.2 by unfold mendE; rw [if_neg (by rw [hsx]; decide)]; rfl)
      clear hsx
      by_cases hfn : firstE pre < 0
      · gi_wp2_with (first
          | (gi_at_builtin; refine wpListIn_append_run rfl _ _ _ _ rfl _ _ rfl rfl _ _ HR.out ?_)
          | (refine ⟨trivial, ?_⟩; gi_at_call 118; refine (CallsIn.inRound l (callsIn_wide.2 (utf8_Put x.2 _))).mono ?_; rw [HSx.out]; rintro e w' ⟨rfl, hb2⟩; have hfb : Boxed w' (w.heap.size + 1) 3 _ := (hb2.block _ hf.lt).trans hf; have hvb : Boxed w' w.heap.size 104 v := (hb2.block _ hv.lt).trans hv; have hfs := hfb.set (.int .i64 (x.1 : Nat)); obtain ⟨a, l', c, w1, hr, hc1, hf1, hbx, ho1, hk1, hkb1, hbl1, hob1⟩ := HS.out _ HM.out (w'.setCell ⟨w.heap.size + 1, 0, none⟩ (.int .i64 (x.1 : Nat))) (hvb.other (by omega) _) (ownsRow_setCell_below (own_below hrow hb2 (Nat.le_refl _)) (by simp) _) (by have := hb2.size; have := (KeepsOthers.setCell w' ⟨w.heap.size + 1, 0, none⟩ (.int .i64 (x.1 : Nat))).size; omega); have HR := Lib.hid hr; clear hr; have hvc := hvb.cell; have hfc := hfb.cell; have hff := hfb.frozen; have HFS := Lib.hid hfs; clear hfs))
        rw [HL.out ⟨#[239, 191, 189]⟩ HM.out] at ho1
        have ho2 : (List.map (fun c : UInt8 => (c.toNat : Int)) [239, 191, 189]) = mendE x.2 := HM.out
        rw [ho2, ← HG.out] at ho1
        have hgl : (gotE (pre ++ [x])).length = (gotE pre).length + (mendE x.2).length := by rw [HG.out, List.length_append]
        rw [← hgl] at ho1
        have hsb2 : Boxed w' (w.heap.size + 1 + 1) 9 (.string s) := (hb2.block _ hsb.lt).trans hsb
        refine ⟨(((keepsOthers_of_below hb2).trans (KeepsOthers.setCell _ _ _)).trans hk1).from _, (hkb1.trans (cell_ne (by omega) _)).trans (hb2.cell (p := ⟨w.heap.size + 1 + 1, 0, none⟩) hsb.lt), ⟨⟨_, hbx, ho1, trivial⟩, ?_, hob1 _ _ _ (by omega) (by omega) (hsb2.other (by omega) _)⟩, hB.trans (((hb2.mono (by omega)).setCell (p := ⟨w.heap.size + 1, 0, none⟩) (by simp) _).trans hbl1)⟩
        rw [HFs.out, HSx.out, if_pos hfn, if_neg (by decide)]
        exact hob1 _ _ _ (by omega) (by omega) HFS.out
      · gi_wp2_with (first
          | (gi_at_builtin; refine wpListIn_append_run rfl _ _ _ _ rfl _ _ rfl rfl _ _ HR.out ?_)
          | (refine ⟨trivial, ?_⟩; gi_at_call 118; refine (CallsIn.inRound l (callsIn_wide.2 (utf8_Put x.2 _))).mono ?_; rw [HSx.out]; rintro e w' ⟨rfl, hb2⟩; obtain ⟨a, l', c, w1, hr, hc1, hf1, hbx, ho1, hk1, hkb1, hbl1, hob1⟩ := HS.out _ HM.out w' ((hb2.block _ hv.lt).trans hv) (own_below hrow hb2 (Nat.le_refl _)) (Nat.le_trans hsz hb2.size); have HR := Lib.hid hr; clear hr; have hvc := (hb2.cell (p := ⟨w.heap.size, 0, none⟩) hv.lt).trans hv.cell; have hfc := (hb2.cell (p := ⟨w.heap.size + 1, 0, none⟩) hf.lt).trans hf.cell))
        rw [HL.out ⟨#[239, 191, 189]⟩ HM.out] at ho1
        have ho2 : (List.map (fun c : UInt8 => (c.toNat : Int)) [239, 191, 189]) = mendE x.2 := HM.out
        rw [ho2, ← HG.out] at ho1
        have hgl : (gotE (pre ++ [x])).length = (gotE pre).length + (mendE x.2).length := by rw [HG.out, List.length_append]
        rw [← hgl] at ho1
        refine ⟨((keepsOthers_of_below hb2).trans hk1).from _, hkb1.trans (hb2.cell (p := ⟨w.heap.size + 1 + 1, 0, none⟩) hsb.lt), ⟨⟨_, hbx, ho1, trivial⟩, ?_, hob1 _ _ _ (by omega) (by omega) ((hb2.block _ hsb.lt).trans hsb)⟩, hB.trans ((hb2.mono (by omega)).trans hbl1)⟩
        rw [HFs.out, if_neg (by omega)]
        exact hob1 _ _ _ (by omega) (by omega) ((hb2.block _ hf.lt).trans hf)
  case done =>
    rintro D ys W hD rfl ⟨⟨⟨v, hv, hrow, _⟩, hf, hsb⟩, hB⟩ hK
    have hvc := hv.cell
    have hfc := hf.cell
    have hcv := conv_own W (w.heap.size + 3) v _ _ hrow
    have hcv1 := conv_own W.drew (w.heap.size + 3) v _ _ hrow
    gi_wp2
    gi_region
    gi_wp2
    have hK' : W.drew.heap[D]? = some (.deferred (some [])) := hK
    refine ⟨by simp, .inl ⟨_, _, rfl, run_takeDeferred hK', ?_⟩⟩
    exact ⟨_, results_tmp2 rfl _ _ _, rfl, (hB.drew).trans (belowK_b (w := w) (Nat.le_refl _) W.drew D _ _ (by simp at hD; omega) hK' rfl rfl)⟩
  case stop =>
    rintro D c pre W _ _ h _
    exact h.elim
theorem piece_sc (s : ByteArray) (p : Int × Nat) (h : p ∈ pieces (nums s)) : isSc p.1 = decide (0 ≤ p.1) := by
  have key : ∀ (f : Nat) (l : List Int), isBs l → ∀ p ∈ pcs f l, isSc p.1 = decide (0 ≤ p.1) := by
    intro f
    induction f with
    | zero => intro l _ p hp; simp [pcs] at hp
    | succ f ih =>
      intro l hl p hp
      cases l with
      | nil => simp [pcs] at hp
      | cons c t =>
        rw [pcs, List.mem_cons] at hp
        rcases hp with rfl | hp
        · by_cases h0 : 0 ≤ (piece (c :: t)).1
          · rw [(piece_enc (c :: t) hl h0).1, decide_eq_true h0]
          · rw [decide_eq_false h0]
            cases hs : isSc (piece (c :: t)).1 with
            | false => rfl
            | true => exact absurd ((isSc_iff _).1 hs).1 h0
        · exact ih _ (fun x hx => hl x (List.mem_of_mem_drop hx)) p hp
  exact key _ _ (nums_isBs s) p h
theorem gotE_posP : ∀ (a : Nat) (l : List (Int × Nat)), (∀ p ∈ l, isSc p.1 = decide (0 ≤ p.1)) → gotE (posP a l) = l.flatMap mend
  | _, [], _ => rfl
  | a, p :: r, h => by
    have ih := gotE_posP (a + p.2) r (fun q hq => h q (List.mem_cons_of_mem _ hq))
    have hp := h p (List.mem_cons_self ..)
    unfold gotE at *
    rw [posP, List.flatMap_cons, List.flatMap_cons, ih]
    congr 1
    unfold mendE mend
    rw [hp]
    by_cases h0 : p.1 < 0
    · rw [if_pos h0, decide_eq_false (by omega)]; rfl
    · rw [if_neg h0, decide_eq_true (by omega)]; rfl
theorem firstE_posP : ∀ (a : Nat) (l : List (Int × Nat)), (∀ p ∈ l, isSc p.1 = decide (0 ≤ p.1)) → firstE (posP a l) = firstP a l
  | _, [], _ => rfl
  | a, p :: r, h => by
    have ih := firstE_posP (a + p.2) r (fun q hq => h q (List.mem_cons_of_mem _ hq))
    have hp := h p (List.mem_cons_self ..)
    rw [posP, firstE, firstP, hp, ih]
    by_cases h0 : p.1 < 0
    · rw [if_pos h0, decide_eq_false (by omega)]; rfl
    · rw [if_neg h0, decide_eq_true (by omega)]; rfl
theorem utf8_Loose (s : ByteArray) (w : World) (hs : s.size ≤ 137438953472) :
    Calls Tryz.prog 76 #[.string s] w fun e w' => e = .returned (.tuple #[.string (strOfNums (looseN (nums s))), .int .i64 (firstN (nums s))]) ∧ Below w.heap.size w w' := by
  have h := utf8_Loose0 s hs w
  unfold els at h
  rw [gotE_posP 0 _ (piece_sc s), firstE_posP 0 _ (piece_sc s)] at h
  exact h
theorem firstP_ok : ∀ (a : Nat) (l : List (Int × Nat)), decide (firstP a l < 0) = l.all okP
  | _, [] => rfl
  | a, p :: r => by
    rw [firstP, List.all_cons, ← firstP_ok (a + p.2) r]
    unfold okP
    by_cases h : p.1 < 0
    · rw [if_pos h, decide_eq_false (by omega), decide_eq_false (by omega)]; rfl
    · rw [if_neg h, decide_eq_true (show 0 ≤ p.1 by omega)]; rfl
theorem firstN_ok (l : List Int) : decide (firstN l < 0) = okAll l := firstP_ok 0 _
set_option maxHeartbeats 400000 in
theorem utf8_Valid (s : ByteArray) (w : World) (hs : s.size ≤ 137438953472) :
    Calls Tryz.prog 43 #[.string s] w fun e w' => e = .returned (.bool (okAll (nums s))) ∧ Below w.heap.size w w' := by
  have HV := Lib.hid (firstN_ok (nums s))
  go_enter Tryz.func43, Tryz.ntmps43
  go_wp2_with (go_at_call 76; refine (utf8_Loose s _ hs).mono ?_; rintro e w' ⟨rfl, hb⟩)
  go_ret
  exact ⟨ret_bool HV.out, hb⟩
theorem collect_int {W : World} {B0 base Bs : Nat} {v : Value} {n : Nat} {xs : List Int} (hv : Boxed W B0 60 v) (hrow : W.ownsRow base 3 1 v n (xs.map (Value.int .i64))) (x : Int)
    (hB0 : B0 < base) (hBs : Bs < base) (hne : Bs ≠ B0) (hbase : base ≤ W.heap.size) (hn : n < 1099511627776) :
    ∃ a l c w1, (Builtin.append_ #[60, 60] 60 #[v, .slice (some ⟨W.heap.size, 0, none⟩) 1 1]).run Tryz.prog (W.alloc (.cells #[.int .i64 x] 3)) = .ok (.slice a l c) w1 ∧ w1.cell? ⟨B0, 0, none⟩ = some v ∧ w1.frozen? ⟨B0, 0, none⟩ = false ∧
      Boxed (w1.setCell ⟨B0, 0, none⟩ (.slice a l c)) B0 60 (.slice a l c) ∧
      (w1.setCell ⟨B0, 0, none⟩ (.slice a l c)).ownsRow base 3 1 (.slice a l c) (n + 1) ((xs ++ [x]).map (Value.int .i64)) ∧
      KeepsOthers W (w1.setCell ⟨B0, 0, none⟩ (.slice a l c)) ∧ KeepsBox Bs W (w1.setCell ⟨B0, 0, none⟩ (.slice a l c)) ∧ Below B0 W (w1.setCell ⟨B0, 0, none⟩ (.slice a l c)) ∧
      (∀ B1 ty u, B1 < base → B1 ≠ B0 → Boxed W B1 ty u → Boxed (w1.setCell ⟨B0, 0, none⟩ (.slice a l c)) B1 ty u) := by
  obtain ⟨v', w1, hr, ho, hg⟩ := app_int_g W base v n xs hrow x hn hbase
  obtain ⟨a, l, c, rfl⟩ := own_slice ho
  have hk : ∀ k, k < base → w1.heap[k]? = W.heap[k]? := fun k hk => (hg.block k (by simp; omega) (fun e => by have := (hrow.lt k e.symm).1; omega)).trans (Below.heap_alloc W _ k (by omega))
  have hv1 : Boxed w1 B0 60 v := (hk B0 hB0).trans hv
  refine ⟨a, l, c, w1, hr, hv1.cell, hv1.frozen, hv1.set _, ?_, ((KeepsOthers.alloc _ _).trans (keepsOthers_of_row (hrow.alloc _) hg)).trans (KeepsOthers.setCell _ _ _), ?_, ?_, ?_⟩
  · exact ho.kept (grownBy_setCell' w1 B0 _) (.inr (hv1.not_row (by decide) ho).symm)
  · exact (cell_ne hne _).trans (World.cell?_of_block (hk Bs hBs))
  · exact (((Below.refl B0 W).alloc (by omega) _).grown hg (by simp; omega) (fun k e => by have := (hrow.lt k e).1; omega)).setCell (p := ⟨B0, 0, none⟩) (Nat.le_refl _) _
  · intro B1 ty u h1 h2 hb
    exact Boxed.other (show Boxed w1 B1 ty u from (hk B1 h1).trans hb) h2 _
def posAll (l : List (Nat × Int)) : Prop := ∀ x ∈ l, 0 ≤ x.2
def negSome (l : List (Nat × Int)) : Prop := ∃ x ∈ l, x.2 < 0
theorem posAll_snoc {l : List (Nat × Int)} {x : Nat × Int} (h : posAll l) (hx : 0 ≤ x.2) : posAll (l ++ [x]) := by
  intro y hy
  rw [List.mem_append, List.mem_singleton] at hy
  rcases hy with hy | rfl
  · exact h y hy
  · exact hx
theorem own_mapsnoc (l : List (Nat × Int)) (x : Nat × Int) : (l ++ [x]).map (·.2) = l.map (·.2) ++ [x.2] := by simp
def ScalI (w : World) (s : ByteArray) : List (Nat × Int) → World → Prop :=
  fun pre W => (((∃ v, Boxed W w.heap.size 60 v ∧ W.ownsRow (w.heap.size + 3) 3 1 v pre.length ((pre.map (·.2)).map (Value.int .i64)) ∧ True) ∧ Boxed W (w.heap.size + 1) 4 (.bool false) ∧ Boxed W (w.heap.size + 1 + 1) 9 (.string s)) ∧ Below w.heap.size w W) ∧ posAll pre
def ScalIx (w : World) : Code → List (Nat × Int) → World → Prop :=
  fun c pre W => ((Boxed W w.heap.size 60 (.slice none 0 0) ∧ Boxed W (w.heap.size + 1) 4 (.bool false)) ∧ Below w.heap.size w W) ∧ c = .ret ∧ negSome pre
set_option maxRecDepth 100000 in
set_option maxHeartbeats 2000000 in
theorem utf8_Scalars0 (s : ByteArray) (hs : s.size ≤ 137438953472) (w : World) :
    Calls Tryz.prog 85 #[.string s] w fun e w' => ∃ v, ((e = .returned (.tuple #[v, .bool true]) ∧ posAll (els s) ∧ w'.ownsRow (w.heap.size + 3) 3 1 v (els s).length (((els s).map (·.2)).map (Value.int .i64))) ∨
      (e = .returned (.tuple #[.slice none 0 0, .bool false]) ∧ negSome (els s))) ∧ Below w.heap.size w w' := by
  refine (callsIn_wide (n := 5)).1 ?_
  refine callsIn_of_wp_marks Tryz.func85 rfl trivial ?_ rfl
  simp only [Tryz.ntmps85, List.size_toArray, List.length_cons, List.length_nil, Nat.reduceAdd, Nat.reduceSub, Array.replicate_succ, Array.replicate_zero, List.push_toArray, List.append_toArray, List.nil_append, List.cons_append]
  gi_wp2_with (refine ⟨trivial, ?_⟩; gi_at_call 117; refine (utf8_pieces_in Fence.wide _ trivial rfl _ _).mono ?_; rintro e w' ⟨rfl, rfl⟩)
  have bO := Boxed.new w 60 (.slice none 0 0)
  have bF := Boxed.new (w.alloc (.cells #[.slice none 0 0] 60)) 4 (.bool false)
  have bS := Boxed.new ((w.alloc (.cells #[.slice none 0 0] 60)).alloc (.cells #[.bool false] 4)) 9 (.string s)
  rw [World.size_alloc] at bF
  rw [World.size_alloc, World.size_alloc] at bS
  have hB0 : Below w.heap.size w (((w.alloc (.cells #[.slice none 0 0] 60)).alloc (.cells #[.bool false] 4)).alloc (.cells #[.string s] 9)) := (((Below.refl _ w).alloc (Nat.le_refl _) _).alloc (by simp) _).alloc (by simp; omega) _
  refine wpIn_rangeFunc_ownG rfl (by omega) (gf := 144) (lb := #[.pointer (some ⟨w.heap.size + 1 + 1, 0, none⟩)]) rfl trivial (enters_of Tryz.func144 (by kernel_rfl) rfl)
    (utf8_pieces_stops _ (by omega) (w.heap.size + 1 + 1) s (by omega) _ (by simp) bS.cell) keepsBox_t (keepsBox_b (by simp)) (Below.refl _ _) (fun _ => rfl)
    (ScalI w s)
    (ScalIx w)
    (OwnFrom.and (OwnFrom.and (OwnFrom.and (Own.from (holdsRow_own (w.heap.size + 3) w.heap.size 60 3 1 (fun pre : List (Nat × Int) => pre.length) (fun pre : List (Nat × Int) => (pre.map (·.2)).map (Value.int .i64)) (fun _ _ => True)) _) (OwnFrom.and (Own.from (boxed_own _ _ (fun _ => .bool false)) _) (Own.from (boxed_own _ _ (fun _ => .string s)) _))) (ownFrom_below (Nat.le_refl _) (by simp; omega))) (ownFrom_pure _ _))
    (fun _ => OwnFrom.and (OwnFrom.and (OwnFrom.and (Own.from (boxed_own _ _ (fun _ => .slice none 0 0)) _) (Own.from (boxed_own _ _ (fun _ => .bool false)) _)) (ownFrom_below (Nat.le_refl _) (by simp; omega))) (ownFrom_pure _ _))
    ⟨⟨⟨⟨_, (bO.alloc _).alloc _, World.ownsRow_nil _ _ _ _, trivial⟩, bF.alloc _, bS⟩, hB0⟩, fun x hx => by cases hx⟩
    (fun x => { tmps := #[.string s, undef, .pointer (some ⟨w.heap.size, 0, none⟩), .pointer (some ⟨w.heap.size + 1, 0, none⟩), undef, .int .i64 x.2, .string s, .func (.func 144) #[] #[.pointer (some ⟨w.heap.size + 1 + 1, 0, none⟩)], .int .i64 (x.1 : Nat), .int .i64 x.2, undef, undef, undef, undef, undef, undef, undef], defers := [] }) ?assign ?body ?done ?stop
  case assign =>
    intro l x W K hK
    gi_wp2
    exact hK
  case body =>
    rintro l pre x W ⟨⟨⟨⟨v, hv, hrow, _⟩, hf, hsb⟩, hB⟩, hpos⟩ hlt
    have hvc := hv.cell
    have hvf := hv.frozen
    have hff := hf.frozen
    have hfc := hf.cell
    have hsz : w.heap.size + 3 ≤ W.heap.size := hsb.lt
    by_cases hx : x.2 < 0
    · have hset1 := hv.set (.slice none 0 0)
      have hset2 := (hf.other (B' := w.heap.size) (by omega) (.slice none 0 0)).set (.bool false)
      have HS1 := Lib.hid hset1
      have HS2 := Lib.hid hset2
      have hfc2 := (hf.other (B' := w.heap.size) (by omega) (.slice none 0 0)).cell
      have hff2 := (hf.other (B' := w.heap.size) (by omega) (.slice none 0 0)).frozen
      clear hset1 hset2
      gi_wp2
      exact ⟨((KeepsOthers.setCell _ _ _).trans (KeepsOthers.setCell _ _ _)).from _, ⟨⟨HS1.out.other (by omega) _, HS2.out⟩, (hB.setCell (p := ⟨w.heap.size, 0, none⟩) (Nat.le_refl _) _).setCell (p := ⟨w.heap.size + 1, 0, none⟩) (by simp) _⟩, rfl, x, by simp, hx⟩
    · obtain ⟨a, l', c, w1, hr, hc1, hf1, hbx, ho1, hk1, hkb1, hbl1, hob1⟩ := collect_int (W := W) (B0 := w.heap.size) (base := w.heap.size + 3) (Bs := w.heap.size + 1 + 1) (v := v) (n := pre.length) (xs := pre.map (·.2)) hv hrow x.2 (by omega) (by omega) (by omega) hsz (by omega)
      have HR := Lib.hid hr
      clear hr
      gi_wp2_with (gi_at_builtin; refine wpListIn_append_run rfl _ _ _ _ rfl _ _ rfl rfl _ _ HR.out ?_)
      rw [← own_mapsnoc] at ho1
      exact ⟨hk1.from _, hkb1, ⟨⟨⟨_, hbx, by rw [List.length_append]; exact ho1, trivial⟩, hob1 _ _ _ (by omega) (by omega) hf, hob1 _ _ _ (by omega) (by omega) hsb⟩, hB.trans hbl1⟩, posAll_snoc hpos (by omega)⟩
  case done =>
    rintro D ys W hD rfl ⟨⟨⟨⟨v, hv, hrow, _⟩, hf, hsb⟩, hB⟩, hpos⟩ hK
    have hvc := hv.cell
    have hvf := hv.frozen
    have hff := hf.frozen
    have hfc := hf.cell
    obtain ⟨a, l', c, rfl⟩ := own_slice hrow
    have hset1 := hv.set (.slice a l' c)
    have hset2 := (hf.other (B' := w.heap.size) (by omega) (.slice a l' c)).set (.bool true)
    have HS1 := Lib.hid hset1
    have HS2 := Lib.hid hset2
    have hfc2 := (hf.other (B' := w.heap.size) (by omega) (.slice a l' c)).cell
    have hff2 := (hf.other (B' := w.heap.size) (by omega) (.slice a l' c)).frozen
    have hsame : ∀ (u : World), u = (W.setCell ⟨w.heap.size, 0, none⟩ (.slice a l' c)).setCell ⟨w.heap.size + 1, 0, none⟩ (.bool true) → u.ownsRow (w.heap.size + 3) 3 1 (.slice a l' c) (els s).length (((els s).map (·.2)).map (Value.int .i64)) := by
      rintro u rfl
      exact ownsRow_setCell_below (ownsRow_setCell_below hrow (by simp) _) (by simp) _
    have HO := Lib.hid hsame
    have HKp := Lib.hid (((KeepsOthers.setCell W ⟨w.heap.size, 0, none⟩ (.slice a l' c)).trans (KeepsOthers.setCell _ ⟨w.heap.size + 1, 0, none⟩ (.bool true))).same D _ hK rfl)
    have HBl := Lib.hid ((hB.setCell (p := ⟨w.heap.size, 0, none⟩) (Nat.le_refl _) (.slice a l' c)).setCell (p := ⟨w.heap.size + 1, 0, none⟩) (by simp) (.bool true))
    clear hset1 hset2 hsame
    gi_wp2
    have hK' := HKp.out
    refine ⟨by simp, .inl ⟨_, _, rfl, run_takeDeferred hK', ?_⟩⟩
    have hc5 := cell_kept (HS1.out.other (by omega) (B' := w.heap.size + 1) (.bool true)).cell (grownBy_putObj' _ D (.deferred none)) (fun r e => by cases e; exact ⟨_, hK', rfl⟩)
    have hc6 := cell_kept HS2.out.cell (grownBy_putObj' _ D (.deferred none)) (fun r e => by cases e; exact ⟨_, hK', rfl⟩)
    refine ⟨.tuple #[.slice a l' c, .bool true], ?_, .slice a l' c, .inl ⟨rfl, hpos, ownsRow_putObj (HO.out _ rfl) _ hK' rfl⟩, HBl.out.trans (belowK_b (w := w) (Nat.le_refl _) _ D _ _ (by simp at hD; omega) hK' rfl rfl)⟩
    simp [results, Tryz.f85, go_sem, hc5, hc6]
  case stop =>
    rintro D c pre W hD ⟨t, ht⟩ ⟨⟨⟨hv, hf⟩, hB⟩, rfl, x, hx, hx0⟩ hK
    gi_wp2
    refine ⟨by simp, .inl ⟨_, _, rfl, run_takeDeferred hK, ?_⟩⟩
    have hc5 := cell_kept hv.cell (grownBy_putObj' _ D (.deferred none)) (fun r e => by cases e; exact ⟨_, hK, rfl⟩)
    have hc6 := cell_kept hf.cell (grownBy_putObj' _ D (.deferred none)) (fun r e => by cases e; exact ⟨_, hK, rfl⟩)
    refine ⟨.tuple #[.slice none 0 0, .bool false], ?_, .slice none 0 0, .inr ⟨rfl, x, by rw [← ht]; exact List.mem_append_left _ hx, hx0⟩, hB.trans (belowK_b (w := w) (Nat.le_refl _) W D _ _ (by simp at hD; omega) hK rfl rfl)⟩
    simp [results, Tryz.f85, go_sem, hc5, hc6]
theorem posAll_okAll (s : ByteArray) : (posAll (els s) → okAll (nums s) = true ∧ (els s).map (·.2) = (pieces (nums s)).map (·.1)) ∧ (negSome (els s) → okAll (nums s) = false) := by
  have key : ∀ (a : Nat) (l : List (Int × Nat)), (posAll (posP a l) → l.all okP = true) ∧ (negSome (posP a l) → l.all okP = false) ∧ (posP a l).map (·.2) = l.map (·.1) := by
    intro a l
    induction l generalizing a with
    | nil => exact ⟨fun _ => rfl, (fun ⟨x, hx, _⟩ => by cases hx), rfl⟩
    | cons p r ih =>
      obtain ⟨h1, h2, h3⟩ := ih (a + p.2)
      rw [posP, List.all_cons]
      refine ⟨fun h => ?_, fun ⟨x, hx, h0⟩ => ?_, by rw [List.map_cons, List.map_cons, h3]⟩
      · have hp : okP p = true := decide_eq_true (h (a, p.1) (List.mem_cons_self ..))
        rw [hp, h1 fun x hx => h x (List.mem_cons_of_mem _ hx)]; rfl
      · rw [List.mem_cons] at hx
        rcases hx with rfl | hx
        · have hp : okP p = false := decide_eq_false (by show ¬ 0 ≤ p.1; have : p.1 < 0 := h0; omega)
          rw [hp]; rfl
        · rw [h2 ⟨x, hx, h0⟩, Bool.and_false]
  obtain ⟨h1, h2, h3⟩ := key 0 (pieces (nums s))
  exact ⟨fun h => ⟨h1 h, h3⟩, h2⟩
theorem ownsRow_base {w : World} {base base' : Nat} {e : TypeId} {size : Nat} {v : Value} {n : Nat} {xs : List Value} (h : w.ownsRow base e size v n xs) (hb : base' ≤ base) : w.ownsRow base' e size v n xs :=
  ⟨h.1, h.2.elim .inl fun ⟨g, cap, cur, h0, h1, h2⟩ => .inr ⟨g, cap, cur, h0, Nat.le_trans hb h1, h2⟩⟩
theorem utf8_Scalars (s : ByteArray) (w : World) (hs : s.size ≤ 137438953472) :
    Calls Tryz.prog 85 #[.string s] w fun e w' => ∃ v, e = .returned (.tuple #[v, .bool (okAll (nums s))]) ∧ w'.ownsRow w.heap.size 3 1 v (scalL (nums s)).length ((scalL (nums s)).map (Value.int .i64)) ∧ Below w.heap.size w w' := by
  refine (utf8_Scalars0 s hs w).mono ?_
  rintro e w' ⟨v, ⟨rfl, hp, ho⟩ | ⟨rfl, hn⟩, hb⟩
  · obtain ⟨h1, h2⟩ := (posAll_okAll s).1 hp
    have hsc : scalL (nums s) = (els s).map (·.2) := by unfold scalL; rw [if_pos h1, h2]
    refine ⟨v, by rw [h1], ?_, hb⟩
    rw [hsc, List.length_map]
    exact ownsRow_base ho (by omega)
  · have h1 := (posAll_okAll s).2 hn
    have hsc : scalL (nums s) = [] := by unfold scalL; rw [if_neg (by rw [h1]; decide)]
    refine ⟨_, by rw [h1], ?_, hb⟩
    rw [hsc]
    exact World.ownsRow_nil _ _ _ _
end Go.Proofs.YthahfoliblgegaaGreatDoor
/- 
  UTF-8 in plain terms: the laws of layer 2. No program in sight.
 -/
namespace Go.Proofs.YthahfoliblgegaaGreatDoor
theorem isBs_encN (r : Int) : isBs (encN r) := by
  intro x hx
  by_cases h : isSc r = true
  · have hr := (isSc_iff r).1 h
    unfold encN at hx
    rw [if_neg (by rw [h]; decide)] at hx
    by_cases h1 : r < 128
    · rw [if_pos h1] at hx; simp only [List.mem_cons, List.not_mem_nil, or_false] at hx; omega
    · rw [if_neg h1] at hx
      by_cases h2 : r < 2048
      · rw [if_pos h2] at hx; simp only [List.mem_cons, List.not_mem_nil, or_false] at hx; omega
      · rw [if_neg h2] at hx
        by_cases h3 : r < 65536
        · rw [if_pos h3] at hx; simp only [List.mem_cons, List.not_mem_nil, or_false] at hx; omega
        · rw [if_neg h3] at hx; simp only [List.mem_cons, List.not_mem_nil, or_false] at hx; omega
  · rw [encN_none (by simpa using h)] at hx; cases hx
theorem isBs_encAll (xs : List Int) : isBs (encAll xs) := by
  intro x hx
  obtain ⟨r, _, h⟩ := List.mem_flatMap.1 hx
  exact isBs_encN r x h
theorem encAll_cons (r : Int) (xs : List Int) : encAll (r :: xs) = encN r ++ encAll xs := rfl
theorem scAll_cons (r : Int) (xs : List Int) : scAll (r :: xs) = (isSc r && scAll xs) := rfl
theorem encN_ne {r : Int} (h : isSc r = true) : encN r ≠ [] := by
  have hr := (isSc_iff r).1 h
  unfold encN
  rw [if_neg (by rw [h]; decide)]
  (repeat' split) <;> simp
/-- text of scalars, and whatever stands behind. -/
theorem pieces_encAll (xs : List Int) (h : scAll xs = true) (t : List Int) : pieces (encAll xs ++ t) = xs.map (fun r => (r, (encN r).length)) ++ pieces t := by
  induction xs with
  | nil => rfl
  | cons r xs ih =>
    rw [scAll_cons, Bool.and_eq_true] at h
    rw [encAll_cons, List.append_assoc, pieces_ne _ (by simp [encN_ne h.1]), piece_of_enc r h.1]
    simp only [List.drop_left, List.map_cons, List.cons_append]
    rw [ih h.2]
theorem pieces_encAll' (xs : List Int) (h : scAll xs = true) : pieces (encAll xs) = xs.map (fun r => (r, (encN r).length)) := by
  have := pieces_encAll xs h []
  rwa [List.append_nil, pieces_nil, List.append_nil] at this
theorem scAll_mem {xs : List Int} (h : scAll xs = true) {r : Int} (hr : r ∈ xs) : isSc r = true := List.all_eq_true.1 h r hr
theorem okAll_encAll (xs : List Int) (h : scAll xs = true) : okAll (encAll xs) = true := by
  unfold okAll
  rw [pieces_encAll' xs h, List.all_map, List.all_eq_true]
  intro r hr
  exact decide_eq_true ((isSc_iff r).1 (scAll_mem h hr)).1
theorem scalL_encAll (xs : List Int) (h : scAll xs = true) : scalL (encAll xs) = xs := by
  unfold scalL
  rw [if_pos (okAll_encAll xs h), pieces_encAll' xs h, List.map_map]
  exact List.map_id xs
/-- right text is what its scalars make. -/
theorem pcs_ok : ∀ (f : Nat) (l : List Int), l.length ≤ f → isBs l → (pcs f l).all okP = true → scAll ((pcs f l).map (·.1)) = true ∧ encAll ((pcs f l).map (·.1)) = l
  | 0, l, hf, _, _ => by
    obtain rfl : l = [] := List.eq_nil_of_length_eq_zero (by omega)
    exact ⟨rfl, rfl⟩
  | f + 1, [], _, _, _ => ⟨rfl, rfl⟩
  | f + 1, c :: t, hf, hb, h => by
    rw [pcs, List.all_cons, Bool.and_eq_true] at h
    have hn := piece_n c t
    have hp := piece_enc (c :: t) hb (of_decide_eq_true h.1)
    obtain ⟨h1, h2⟩ := pcs_ok f ((c :: t).drop (piece (c :: t)).2) (by rw [List.length_drop]; simp only [List.length_cons] at *; omega) (fun x hx => hb x (List.mem_of_mem_drop hx)) h.2
    rw [pcs, List.map_cons, scAll_cons, encAll_cons, hp.1, h1, hp.2, h2]
    exact ⟨rfl, List.take_append_drop _ _⟩
theorem ok_scal (l : List Int) (hb : isBs l) (h : okAll l = true) : scAll (scalL l) = true ∧ encAll (scalL l) = l := by
  unfold scalL
  rw [if_pos h]
  exact pcs_ok l.length l (Nat.le_refl _) hb h
/-- what is told loosely is text of scalars. -/
def mended (l : List Int) : List Int := (pieces l).map fun p => if p.1 < 0 then 65533 else p.1
theorem pcs_sc : ∀ (f : Nat) (l : List Int), isBs l → ∀ p ∈ pcs f l, 0 ≤ p.1 → isSc p.1 = true
  | 0, l, _, p, hp, _ => by simp [pcs] at hp
  | f + 1, [], _, p, hp, _ => by simp [pcs] at hp
  | f + 1, c :: t, hb, p, hp, h0 => by
    rw [pcs, List.mem_cons] at hp
    rcases hp with rfl | hp
    · exact (piece_enc (c :: t) hb h0).1
    · exact pcs_sc f _ (fun x hx => hb x (List.mem_of_mem_drop hx)) p hp h0
theorem mended_sc (l : List Int) (hb : isBs l) : scAll (mended l) = true := by
  unfold scAll mended
  rw [List.all_map, List.all_eq_true]
  intro p hp
  show isSc (if p.1 < 0 then 65533 else p.1) = true
  by_cases h : p.1 < 0
  · rw [if_pos h]; rfl
  · rw [if_neg h]; exact pcs_sc _ l hb p hp (by omega)
theorem looseN_mended (l : List Int) : looseN l = encAll (mended l) := by
  unfold looseN mended encAll
  rw [List.flatMap_map]
  congr 1
  funext p
  unfold mend
  by_cases h : p.1 < 0
  · rw [if_pos h, if_pos h]; rfl
  · rw [if_neg h, if_neg h]
theorem looseN_isBs (l : List Int) : isBs (looseN l) := by rw [looseN_mended]; exact isBs_encAll _
theorem okAll_loose (l : List Int) (hb : isBs l) : okAll (looseN l) = true := by rw [looseN_mended]; exact okAll_encAll _ (mended_sc l hb)
theorem loose_ok (l : List Int) (hb : isBs l) (h : okAll l = true) : looseN l = l := by
  obtain ⟨h1, h2⟩ := ok_scal l hb h
  rw [looseN_mended]
  have : mended l = scalL l := by
    unfold mended scalL
    rw [if_pos h]
    apply List.map_congr_left
    intro p hp
    have : okP p = true := List.all_eq_true.1 h p hp
    rw [if_neg (by have := of_decide_eq_true this; omega)]
  rw [this, h2]
theorem firstP_none : ∀ (a : Nat) (l : List (Int × Nat)), l.all okP = true → firstP a l = -1
  | _, [], _ => rfl
  | a, p :: r, h => by
    rw [List.all_cons, Bool.and_eq_true] at h
    rw [firstP, if_neg (by have := of_decide_eq_true h.1; omega), firstP_none _ r h.2]
theorem firstP_some : ∀ (a : Nat) (l : List (Int × Nat)), l.all okP = false → 0 ≤ firstP a l
  | _, [], h => by cases h
  | a, p :: r, h => by
    rw [firstP]
    by_cases hp : p.1 < 0
    · rw [if_pos hp]; omega
    · rw [if_neg hp]
      rw [List.all_cons, show okP p = true from decide_eq_true (by omega), Bool.true_and] at h
      exact firstP_some _ r h
theorem firstN_none (l : List Int) (h : okAll l = true) : firstN l = -1 := firstP_none 0 _ h
theorem firstN_some (l : List Int) (h : okAll l = false) : 0 ≤ firstN l := firstP_some 0 _ h
theorem sLen_enc (r : Int) : sLen r = ((encN r).length : Int) := by
  unfold sLen encN
  by_cases h : isSc r = false
  · rw [if_pos h, if_pos h]; rfl
  · rw [if_neg h, if_neg h]
    (repeat' split) <;> rfl
/-! texts put together -/
theorem piece_app_conts (m : Nat) (r fr to : Int) (n : Nat) (l c : List Int) (hc : ∀ x ∈ c.head?, x < 128 ∨ 194 ≤ x) (hfr : 128 ≤ fr) (hto : to ≤ 191) :
    conts m r fr to n (l ++ c) = conts m r fr to n l := by
  induction m generalizing r fr to n l with
  | zero => cases l <;> cases c <;> simp [conts]
  | succ m ih =>
    cases l with
    | nil =>
      cases c with
      | nil => rfl
      | cons x c =>
        have := hc x rfl
        rw [List.nil_append, conts, conts, if_pos (by omega)]
    | cons y l =>
      rw [List.cons_append, conts, conts]
      by_cases h : y < fr ∨ to < y
      · rw [if_pos h, if_pos h]
      · rw [if_neg h, if_neg h, ih _ _ _ _ _ (by omega) (by omega)]
theorem piece_app (b : Int) (t c : List Int) (hc : ∀ x ∈ c.head?, x < 128 ∨ 194 ≤ x) : piece (b :: t ++ c) = piece (b :: t) := by
  have hf := fFrom_lo b
  have ht := fTo_lo b
  rw [List.cons_append, piece, piece]
  by_cases h : fMore b < 0
  · rw [if_pos h, if_pos h]
  · rw [if_neg h, if_neg h, piece_app_conts _ _ _ _ _ _ _ hc (by omega) (by omega)]
theorem pieces_app_len : ∀ (n : Nat) (b c : List Int), b.length ≤ n → (∀ x ∈ c.head?, x < 128 ∨ 194 ≤ x) → pieces (b ++ c) = pieces b ++ pieces c
  | 0, b, c, h, _ => by
    obtain rfl : b = [] := List.eq_nil_of_length_eq_zero (by omega)
    rfl
  | n + 1, [], c, _, _ => rfl
  | n + 1, x :: t, c, h, hc => by
    have hp := piece_app x t c hc
    have hn := piece_n x t
    rw [pieces_ne (x :: t ++ c) (by simp), pieces_cons x t, hp, List.drop_append_of_le_length hn.2.1, List.cons_append,
      pieces_app_len n ((x :: t).drop (piece (x :: t)).2) c (by rw [List.length_drop]; simp only [List.length_cons] at *; omega) hc]
theorem ok_head (c : List Int) (hb : isBs c) (h : okAll c = true) : ∀ x ∈ c.head?, x < 128 ∨ 194 ≤ x := by
  intro x hx
  cases c with
  | nil => cases hx
  | cons y t =>
    obtain rfl : y = x := by simpa using hx
    unfold okAll at h
    rw [pieces_cons, List.all_cons, Bool.and_eq_true] at h
    have h0 : 0 ≤ (piece (y :: t)).1 := of_decide_eq_true h.1
    by_cases h1 : y < 128
    · exact .inl h1
    · by_cases h2 : 194 ≤ y
      · exact .inr h2
      · rw [piece, fMore_bad (by omega) (by omega)] at h0
        simp at h0
theorem pieces_parts (a b c : List Int) (ha : isBs a) (hc : isBs c) (oa : okAll a = true) (oc : okAll c = true) : pieces (a ++ (b ++ c)) = pieces a ++ (pieces b ++ pieces c) := by
  obtain ⟨h1, h2⟩ := ok_scal a ha oa
  have e := pieces_encAll _ h1 (b ++ c)
  have e' := pieces_encAll' _ h1
  rw [h2] at e e'
  rw [e, ← e', pieces_app_len b.length b c (Nat.le_refl _) (ok_head c hc oc)]
theorem looseN_parts (a b c : List Int) (ha : isBs a) (hc : isBs c) (oa : okAll a = true) (oc : okAll c = true) : looseN (a ++ (b ++ c)) = a ++ (looseN b ++ c) := by
  unfold looseN
  rw [pieces_parts a b c ha hc oa oc, List.flatMap_append, List.flatMap_append]
  have h1 := loose_ok a ha oa
  have h3 := loose_ok c hc oc
  unfold looseN at h1 h3
  rw [h1, h3]
theorem pcs_sum : ∀ (f : Nat) (l : List Int), l.length ≤ f → ((pcs f l).map (·.2)).sum = l.length
  | 0, l, hf => by
    obtain rfl : l = [] := List.eq_nil_of_length_eq_zero (by omega)
    rfl
  | f + 1, [], _ => rfl
  | f + 1, c :: t, hf => by
    have hn := piece_n c t
    rw [pcs, List.map_cons, List.sum_cons, pcs_sum f _ (by rw [List.length_drop]; simp only [List.length_cons] at *; omega), List.length_drop]
    omega
theorem firstP_app (m : List (Int × Nat)) : ∀ (a : Nat) (l : List (Int × Nat)), l.all okP = true → firstP a (l ++ m) = firstP (a + (l.map (·.2)).sum) m
  | a, [], _ => by simp
  | a, p :: r, h => by
    rw [List.all_cons, Bool.and_eq_true] at h
    rw [List.cons_append, firstP, if_neg (by have := of_decide_eq_true h.1; omega), firstP_app m _ r h.2]
    simp [Nat.add_assoc]
theorem firstP_app_ok (m : List (Int × Nat)) (hm : m.all okP = true) : ∀ (a : Nat) (l : List (Int × Nat)), firstP a (l ++ m) = firstP a l
  | a, [] => by rw [List.nil_append, firstP_none a m hm]; rfl
  | a, p :: r => by
    rw [List.cons_append, firstP, firstP, firstP_app_ok m hm]
theorem firstP_shift (k : Nat) : ∀ (a : Nat) (l : List (Int × Nat)), firstP (a + k) l = if firstP a l < 0 then firstP a l else firstP a l + k
  | a, [] => by simp [firstP]
  | a, p :: r => by
    rw [firstP, firstP]
    by_cases h : p.1 < 0
    · rw [if_pos h, if_pos h, if_neg (by omega)]; simp
    · rw [if_neg h, if_neg h, show a + k + p.2 = a + p.2 + k by omega, firstP_shift k]
theorem firstP_hi : ∀ (a : Nat) (l : List (Int × Nat)), firstP a l ≤ a + (l.map (·.2)).sum
  | a, [] => by rw [firstP]; omega
  | a, p :: r => by
    have := firstP_hi (a + p.2) r
    rw [firstP, List.map_cons, List.sum_cons]
    split <;> omega
theorem firstN_hi (l : List Int) : firstN l ≤ l.length := by
  have h := firstP_hi 0 (pieces l)
  have h2 : ((pieces l).map (·.2)).sum = l.length := pcs_sum l.length l (Nat.le_refl _)
  unfold firstN
  omega
theorem firstN_parts (a b c : List Int) (ha : isBs a) (hc : isBs c) (oa : okAll a = true) (oc : okAll c = true) : firstN (a ++ (b ++ c)) = if firstN b < 0 then firstN b else firstN b + a.length := by
  unfold firstN
  rw [pieces_parts a b c ha hc oa oc, firstP_app _ 0 _ oa, firstP_app_ok _ oc, firstP_shift]
  have : ((pieces a).map (·.2)).sum = a.length := pcs_sum a.length a (Nat.le_refl _)
  rw [this]
end Go.Proofs.YthahfoliblgegaaGreatDoor
/- 
  UTF-16 in plain terms: units, what bytes are decoded to, what scalars are encoded as. No program in sight.
 -/
namespace Go.Proofs.YthahfoliblgegaaGreatDoor
def unitN (big : Bool) (x y : Int) : Int := if big then x * 256 + y else y * 256 + x
def isHi (u : Int) : Bool := decide (55296 ≤ u ∧ u ≤ 56319)
def isLo (u : Int) : Bool := decide (56320 ≤ u ∧ u ≤ 57343)
def pairN (u v : Int) : Int := 65536 + (u - 55296) * 1024 + (v - 56320)
/-- the first scalar of a row of two bytes or more: what, of how many bytes, and whether it is right. -/
def step16 (big : Bool) (x y : Int) (r : List Int) : Int × Nat × Bool :=
  if isHi (unitN big x y) then
    match r with
    | p :: q :: _ => if isLo (unitN big p q) then (pairN (unitN big x y) (unitN big p q), 4, true) else (65533, 2, false)
    | _ => (65533, 2, false)
  else if isLo (unitN big x y) then (65533, 2, false) else (unitN big x y, 2, true)
def dec16 (big : Bool) : Nat → Nat → List Int → List Int × List Int
  | 0, _, _ => ([], [])
  | _ + 1, _, [] => ([], [])
  | _ + 1, a, [_] => ([65533], [(a : Int)])
  | f + 1, a, x :: y :: r =>
    ((step16 big x y r).1 :: (dec16 big f (a + (step16 big x y r).2.1) ((x :: y :: r).drop (step16 big x y r).2.1)).1,
      if (step16 big x y r).2.2 then (dec16 big f (a + (step16 big x y r).2.1) ((x :: y :: r).drop (step16 big x y r).2.1)).2 else (a : Int) :: (dec16 big f (a + (step16 big x y r).2.1) ((x :: y :: r).drop (step16 big x y r).2.1)).2)
theorem step16_n (big : Bool) (x y : Int) (r : List Int) : ((step16 big x y r).2.1 = 2 ∨ (step16 big x y r).2.1 = 4 ∧ 2 ≤ r.length) := by
  unfold step16
  split
  · split
    · split
      · exact .inr ⟨rfl, by simp⟩
      · exact .inl rfl
    · exact .inl rfl
  · split <;> exact .inl rfl
theorem dec16_fuel (big : Bool) : ∀ (f g a : Nat) (l : List Int), l.length < f → l.length < g → dec16 big f a l = dec16 big g a l
  | 0, _, _, _, h, _ => by omega
  | _ + 1, 0, _, _, _, h => by omega
  | _ + 1, _ + 1, _, [], _, _ => rfl
  | _ + 1, _ + 1, _, [_], _, _ => rfl
  | f + 1, g + 1, a, x :: y :: r, hf, hg => by
    simp only [List.length_cons] at hf hg
    have hn := step16_n big x y r
    have hl : ((x :: y :: r).drop (step16 big x y r).2.1).length ≤ r.length := by
      rw [List.length_drop]
      simp only [List.length_cons]
      omega
    rw [dec16, dec16, dec16_fuel big f g _ _ (by omega) (by omega)]
/-- decoded, with fuel enough. -/
def dW (big : Bool) (a : Nat) (l : List Int) : List Int × List Int := dec16 big (l.length + 1) a l
theorem dW_nil (big : Bool) (a : Nat) : dW big a [] = ([], []) := rfl
theorem dW_one (big : Bool) (a : Nat) (x : Int) : dW big a [x] = ([65533], [(a : Int)]) := rfl
theorem dW_step (big : Bool) (a : Nat) (x y : Int) (r : List Int) {s : Int} {n : Nat} {ok : Bool} (h : step16 big x y r = (s, n, ok)) :
    dW big a (x :: y :: r) = (s :: (dW big (a + n) ((x :: y :: r).drop n)).1, if ok then (dW big (a + n) ((x :: y :: r).drop n)).2 else (a : Int) :: (dW big (a + n) ((x :: y :: r).drop n)).2) := by
  have hn := step16_n big x y r
  rw [h] at hn
  simp only at hn
  have hl : ((x :: y :: r).drop n).length ≤ r.length := by
    rw [List.length_drop]
    simp only [List.length_cons]
    omega
  unfold dW
  rw [dec16, h]
  simp only
  rw [dec16_fuel big (x :: y :: r).length (((x :: y :: r).drop n).length + 1) _ _ (by simp only [List.length_cons]; omega) (by omega)]
theorem unit_lo (big : Bool) {x y : Int} (hx : 0 ≤ x ∧ x < 256) (hy : 0 ≤ y ∧ y < 256) : 0 ≤ unitN big x y ∧ unitN big x y < 65536 := by
  unfold unitN
  split <;> omega
theorem step_sc (big : Bool) {x y : Int} {r : List Int} (hx : 0 ≤ x ∧ x < 256) (hy : 0 ≤ y ∧ y < 256) : isSc (step16 big x y r).1 = true := by
  have hu := unit_lo big hx hy
  unfold step16
  split
  · rename_i h1
    have h1' := of_decide_eq_true h1
    split
    · split
      · rename_i h2
        have h2' := of_decide_eq_true h2
        show isSc (pairN _ _) = true
        unfold pairN isSc
        exact decide_eq_true (by omega)
      · decide
    · decide
  · rename_i h1
    split
    · decide
    · rename_i h2
      have h1' : ¬ (55296 ≤ unitN big x y ∧ unitN big x y ≤ 56319) := fun e => h1 (decide_eq_true e)
      have h2' : ¬ (56320 ≤ unitN big x y ∧ unitN big x y ≤ 57343) := fun e => h2 (decide_eq_true e)
      unfold isSc
      exact decide_eq_true (by omega)
theorem dec_sc (big : Bool) : ∀ (f a : Nat) (l : List Int), isBs l → scAll (dec16 big f a l).1 = true
  | 0, _, _, _ => rfl
  | _ + 1, _, [], _ => rfl
  | _ + 1, _, [_], _ => by show (isSc 65533 && true) = true; decide
  | f + 1, a, x :: y :: r, h => by
    rw [dec16, scAll_cons, step_sc big (h x (List.mem_cons_self ..)) (h y (by simp)), dec_sc big f _ _ (fun z hz => h z (List.mem_of_mem_drop hz))]
    rfl
theorem dW_sc (big : Bool) (a : Nat) (l : List Int) (h : isBs l) : scAll (dW big a l).1 = true := dec_sc big _ a l h
/-- each two bytes turned about. -/
def turn : List Int → List Int
  | x :: y :: r => y :: x :: turn r
  | l => l
theorem turn_len : ∀ l : List Int, (turn l).length = l.length
  | [] => rfl
  | [_] => rfl
  | x :: y :: r => by simp only [turn, List.length_cons, turn_len r]
theorem unit_turn (big : Bool) (x y : Int) : unitN (!big) y x = unitN big x y := by cases big <;> rfl
theorem step_turn (big : Bool) (x y : Int) : ∀ r : List Int, step16 (!big) y x (turn r) = step16 big x y r
  | [] => by unfold step16; rw [unit_turn]; rfl
  | [p] => by unfold step16; rw [unit_turn]; rfl
  | p :: q :: r => by unfold step16; simp only [turn, unit_turn]
theorem dec_turn (big : Bool) : ∀ (f a : Nat) (l : List Int), l.length % 2 = 0 → dec16 (!big) f a (turn l) = dec16 big f a l
  | 0, _, _, _ => rfl
  | _ + 1, _, [], _ => rfl
  | _ + 1, _, [_], h => by simp at h
  | f + 1, a, x :: y :: r, h => by
    simp only [List.length_cons] at h
    have hd : (turn (x :: y :: r)).drop (step16 big x y r).2.1 = turn ((x :: y :: r).drop (step16 big x y r).2.1) := by
      rcases step16_n big x y r with h1 | ⟨h1, h2⟩
      · rw [h1]; rfl
      · rw [h1]
        match r, h2 with
        | p :: q :: r, _ => rfl
    have hl : ((x :: y :: r).drop (step16 big x y r).2.1).length % 2 = 0 := by
      rw [List.length_drop]
      simp only [List.length_cons]
      rcases step16_n big x y r with h1 | ⟨h1, h2⟩ <;> omega
    show dec16 (!big) (f + 1) a (y :: x :: turn r) = _
    rw [dec16, dec16, step_turn]
    have hd' : (y :: x :: turn r).drop (step16 big x y r).2.1 = turn ((x :: y :: r).drop (step16 big x y r).2.1) := hd
    rw [hd', dec_turn big f _ _ hl]
theorem dW_turn (big : Bool) (a : Nat) (l : List Int) (h : l.length % 2 = 0) : dW (!big) a (turn l) = dW big a l := by
  unfold dW
  rw [turn_len]
  exact dec_turn big _ a l h
def put16 (big : Bool) (u : Int) : List Int := if big then [u / 256, u % 256] else [u % 256, u / 256]
def encU (big : Bool) (n : Int) : List Int := if 65536 ≤ n then put16 big (55296 + (n - 65536) / 1024) ++ put16 big (56320 + (n - 65536) % 1024) else put16 big n
def enc16 (big : Bool) (xs : List Int) : List Int := xs.flatMap (encU big)
theorem enc16_append (big : Bool) (xs ys : List Int) : enc16 big (xs ++ ys) = enc16 big xs ++ enc16 big ys := by unfold enc16; rw [List.flatMap_append]
theorem enc16_cons (big : Bool) (x : Int) (xs : List Int) : enc16 big (x :: xs) = encU big x ++ enc16 big xs := rfl
theorem put16_unit (big : Bool) {u : Int} : ∃ x y, put16 big u = [x, y] ∧ unitN big x y = u ∧ (0 ≤ u → u < 65536 → (0 ≤ x ∧ x < 256) ∧ (0 ≤ y ∧ y < 256)) := by
  unfold put16 unitN
  cases big
  · exact ⟨u % 256, u / 256, rfl, by simp; omega, fun _ _ => by omega⟩
  · exact ⟨u / 256, u % 256, rfl, by simp; omega, fun _ _ => by omega⟩
theorem unit_put16 (big : Bool) {x y : Int} (hx : 0 ≤ x ∧ x < 256) (hy : 0 ≤ y ∧ y < 256) : put16 big (unitN big x y) = [x, y] := by
  unfold put16 unitN
  cases big
  · simp; omega
  · simp; omega
theorem put16_len (big : Bool) (u : Int) : (put16 big u).length = 2 := by unfold put16; split <;> rfl
theorem encU_len (big : Bool) (n : Int) : (encU big n).length = if 65536 ≤ n then 4 else 2 := by
  unfold encU
  split
  · rw [List.length_append, put16_len, put16_len]
  · exact put16_len big n
theorem enc16_bs (big : Bool) (xs : List Int) (h : scAll xs = true) : isBs (enc16 big xs) := by
  intro z hz
  obtain ⟨n, hn, hz⟩ := List.mem_flatMap.1 hz
  have hs := (isSc_iff n).1 (scAll_mem h hn)
  have key : ∀ u : Int, 0 ≤ u → u < 65536 → z ∈ put16 big u → 0 ≤ z ∧ z < 256 := by
    intro u h0 h1 hz
    unfold put16 at hz
    split at hz <;> simp at hz <;> rcases hz with rfl | rfl <;> omega
  unfold encU at hz
  split at hz
  · rcases List.mem_append.1 hz with hz | hz
    · exact key _ (by omega) (by omega) hz
    · exact key _ (by omega) (by omega) hz
  · exact key _ (by omega) (by omega) hz
/-- what was encoded is decoded as it was. -/
theorem dec_enc (big : Bool) : ∀ (xs : List Int) (a : Nat), scAll xs = true → dW big a (enc16 big xs) = (xs, [])
  | [], a, _ => rfl
  | n :: xs, a, h => by
    rw [scAll_cons, Bool.and_eq_true] at h
    have hs := (isSc_iff n).1 h.1
    rw [enc16_cons]
    unfold encU
    split
    · rename_i hb
      obtain ⟨x, y, e1, u1, -⟩ := put16_unit big (u := 55296 + (n - 65536) / 1024)
      obtain ⟨p, q, e2, u2, -⟩ := put16_unit big (u := 56320 + (n - 65536) % 1024)
      rw [e1, e2]
      have hst : step16 big x y ([p, q] ++ enc16 big xs) = (n, 4, true) := by
        show step16 big x y (p :: q :: enc16 big xs) = _
        unfold step16
        simp only
        rw [u1, u2, if_pos (by unfold isHi; exact decide_eq_true (by omega)), if_pos (by unfold isLo; exact decide_eq_true (by omega))]
        have : pairN (55296 + (n - 65536) / 1024) (56320 + (n - 65536) % 1024) = n := by unfold pairN; omega
        rw [this]
      show dW big a (x :: y :: ([p, q] ++ enc16 big xs)) = _
      rw [dW_step big a x y _ hst]
      show ((n :: (dW big (a + 4) (enc16 big xs)).1), _) = _
      have ih := dec_enc big xs (a + 4) h.2
      rw [show (x :: y :: ([p, q] ++ enc16 big xs)).drop 4 = enc16 big xs from rfl, ih]
      rfl
    · rename_i hb
      obtain ⟨x, y, e1, u1, -⟩ := put16_unit big (u := n)
      rw [e1]
      have hst : step16 big x y (enc16 big xs) = (n, 2, true) := by
        unfold step16
        rw [u1, if_neg (by unfold isHi; simp; omega), if_neg (by unfold isLo; simp; omega)]
      show dW big a (x :: y :: enc16 big xs) = _
      rw [dW_step big a x y _ hst, show (x :: y :: enc16 big xs).drop 2 = enc16 big xs from rfl, dec_enc big xs (a + 2) h.2]
      rfl
/-- right bytes are what their scalars are encoded as. -/
theorem enc_dec (big : Bool) : ∀ (f a : Nat) (l : List Int), l.length < f → isBs l → (dec16 big f a l).2 = [] → enc16 big (dec16 big f a l).1 = l
  | 0, _, _, h, _, _ => by omega
  | _ + 1, _, [], _, _, _ => rfl
  | _ + 1, _, [_], _, _, h => by cases h
  | f + 1, a, x :: y :: r, hf, hb, h => by
    simp only [List.length_cons] at hf
    have hx := hb x (List.mem_cons_self ..)
    have hy := hb y (by simp)
    have hn := step16_n big x y r
    rw [dec16] at h ⊢
    obtain ⟨s, n, ok, hst⟩ : ∃ s n ok, step16 big x y r = (s, n, ok) := ⟨_, _, _, rfl⟩
    rw [hst] at h hn ⊢
    simp only at h hn ⊢
    cases ok with
    | false => simp at h
    | true =>
      simp only [if_true] at h
      have hl : ((x :: y :: r).drop n).length ≤ r.length := by
        rw [List.length_drop]
        simp only [List.length_cons]
        omega
      have ih := enc_dec big f (a + n) ((x :: y :: r).drop n) (by omega) (fun z hz => hb z (List.mem_of_mem_drop hz)) h
      rw [enc16_cons, ih]
      unfold step16 at hst
      have hu := unit_lo big hx hy
      split at hst
      · rename_i h1
        have h1' := of_decide_eq_true h1
        split at hst
        · rename_i p q r' 
          split at hst
          · rename_i h2
            have h2' := of_decide_eq_true h2
            simp only [Prod.mk.injEq] at hst
            obtain ⟨rfl, rfl, -⟩ := hst
            have hp := hb p (by simp)
            have hq := hb q (by simp)
            have hv := unit_lo big hp hq
            unfold encU pairN
            rw [if_pos (by omega)]
            rw [show 55296 + (65536 + (unitN big x y - 55296) * 1024 + (unitN big p q - 56320) - 65536) / 1024 = unitN big x y by omega, show 56320 + (65536 + (unitN big x y - 55296) * 1024 + (unitN big p q - 56320) - 65536) % 1024 = unitN big p q by omega, unit_put16 big hx hy, unit_put16 big hp hq]
            rfl
          · simp at hst
        · simp at hst
      · split at hst
        · simp at hst
        · simp only [Prod.mk.injEq] at hst
          obtain ⟨rfl, rfl, -⟩ := hst
          unfold encU
          rw [if_neg (by omega), unit_put16 big hx hy]
          rfl
theorem enc_dW (big : Bool) (a : Nat) (l : List Int) (hb : isBs l) (h : (dW big a l).2 = []) : enc16 big (dW big a l).1 = l := enc_dec big _ a l (Nat.lt_succ_self _) hb h
/-- units: one, or two. -/
def unitsN (xs : List Int) : Nat := (xs.map fun n => if 65536 ≤ n then 2 else 1).sum
theorem enc16_len (big : Bool) (xs : List Int) : (enc16 big xs).length = 2 * unitsN xs := by
  induction xs with
  | nil => rfl
  | cons n xs ih =>
    rw [enc16_cons, List.length_append, ih, encU_len]
    unfold unitsN
    rw [List.map_cons, List.sum_cons]
    split <;> omega
theorem unitsN_append (xs ys : List Int) : unitsN (xs ++ ys) = unitsN xs + unitsN ys := by unfold unitsN; rw [List.map_append, List.sum_append]
theorem unitsN_lo (xs : List Int) : xs.length ≤ unitsN xs ∧ unitsN xs ≤ 2 * xs.length := by
  induction xs with
  | nil => exact ⟨Nat.le_refl _, Nat.le_refl _⟩
  | cons n xs ih =>
    unfold unitsN at ih ⊢
    rw [List.map_cons, List.sum_cons, List.length_cons]
    split <;> omega
end Go.Proofs.YthahfoliblgegaaGreatDoor
/- 
  The walks of units: order.unit, the reference's unit, high, low.
 -/
namespace Go.Proofs.YthahfoliblgegaaGreatDoor
open Go.RowKit
theorem wraps_u16 (n : Int) (h₀ : 0 ≤ n) (h₁ : n < 2 ^ 16) : IntKind.u16.wrap n = n := by rw [IntKind.wrap_u16]; omega
theorem u16_or8 (x y : Int) (h0 : 0 ≤ x) (h1 : x < 256) (h3 : 0 ≤ y) (h4 : y < 256) : bits .or .u16 (x * 256) y = x * 256 + y :=
  bits_join .u16 16 (by decide) wraps_u16 8 (x * 256) y (by omega) (by omega) (by omega) h3 h4 (by omega)
theorem ref03_high (u : Int) (w : World) : Calls Tryz.prog 81 #[.int .i64 u] w fun e w' => e = .returned (.bool (isHi u)) ∧ w = w' := by
  have HH := Lib.hid (show isHi u = (decide (55296 ≤ u) && decide (u ≤ 56319)) by unfold isHi; simp)
  by_cases h1 : 55296 ≤ u
  · have p1 := decide_eq_true h1
    rw [p1, Bool.true_and] at HH
    go_enter Tryz.func81, Tryz.ntmps81
    go_wp2
    all_goals (go_ret; exact ⟨by rw [HH.out]; rfl, rfl⟩)
  · have p1 := decide_eq_false h1
    rw [p1, Bool.false_and] at HH
    go_enter Tryz.func81, Tryz.ntmps81
    go_wp2
    go_ret
    exact ⟨by rw [HH.out]; rfl, rfl⟩
theorem ref03_low (u : Int) (w : World) : Calls Tryz.prog 82 #[.int .i64 u] w fun e w' => e = .returned (.bool (isLo u)) ∧ w = w' := by
  have HH := Lib.hid (show isLo u = (decide (56320 ≤ u) && decide (u ≤ 57343)) by unfold isLo; simp)
  by_cases h1 : 56320 ≤ u
  · have p1 := decide_eq_true h1
    rw [p1, Bool.true_and] at HH
    go_enter Tryz.func82, Tryz.ntmps82
    go_wp2
    all_goals (go_ret; exact ⟨by rw [HH.out]; rfl, rfl⟩)
  · have p1 := decide_eq_false h1
    rw [p1, Bool.false_and] at HH
    go_enter Tryz.func82, Tryz.ntmps82
    go_wp2
    go_ret
    exact ⟨by rw [HH.out]; rfl, rfl⟩
set_option maxRecDepth 100000 in
theorem utf16_unit (big : Bool) (s : ByteArray) (k : Nat) (i : Int) (hik : i = k) (w : World) (h : k + 1 < s.size) (hs : s.size ≤ 1099511627776) (x y : Nat) (hx : s[k].toNat = x) (hy : s[k + 1].toNat = y) (u : Int) (hu : unitN big x y = u) :
    Calls Tryz.prog 121 #[.bool big, .string s, .int .i64 i] w fun e w' => e = .returned (.int .u16 u) ∧ ∃ m, w' = w.drewN m := by
  subst hik
  subst hu
  have hi1 := index_str s k (by omega) (x : Int) k (by rw [hx]) rfl
  have hi2 := index_str s (k + 1) h (y : Int) ((k : Int) + 1) (by rw [hy]) (by omega)
  have hx256 : x < 256 := by rw [← hx]; exact s[k].toBitVec.isLt
  have hy256 : y < 256 := by rw [← hy]; exact s[k + 1].toBitVec.isLt
  have ho1 := u16_or8 x y (by omega) (by omega) (by omega) (by omega)
  have ho2 := u16_or8 y x (by omega) (by omega) (by omega) (by omega)
  clear hx hy
  cases big
  · go_enter Tryz.func121, Tryz.ntmps121
    go_wp2_with fail
    go_quiet (fail)
    go_wp2
    go_ret
    exact ⟨rfl, _, rfl⟩
  · go_enter Tryz.func121, Tryz.ntmps121
    go_wp2_with fail
    go_quiet (fail)
    go_wp2
    go_ret
    exact ⟨rfl, _, rfl⟩
set_option maxRecDepth 100000 in
theorem ref03_unit (big : Bool) (s : ByteArray) (k : Nat) (i : Int) (hik : i = k) (w : World) (h : k + 1 < s.size) (hs : s.size ≤ 1099511627776) (x y : Nat) (hx : s[k].toNat = x) (hy : s[k + 1].toNat = y) (u : Int) (hu : unitN big x y = u) :
    Calls Tryz.prog 80 #[.string s, .int .i64 i, .bool big] w fun e w' => e = .returned (.int .i64 u) ∧ ∃ m, w' = w.drewN m := by
  subst hik
  subst hu
  have hi1 := index_str s k (by omega) (x : Int) k (by rw [hx]) rfl
  have hi2 := index_str s (k + 1) h (y : Int) ((k : Int) + 1) (by rw [hy]) (by omega)
  have hx256 : x < 256 := by rw [← hx]; exact s[k].toBitVec.isLt
  have hy256 : y < 256 := by rw [← hy]; exact s[k + 1].toBitVec.isLt
  clear hx hy
  cases big
  · go_enter Tryz.func80, Tryz.ntmps80
    go_wp2_with fail
    go_quiet (fail)
    go_wp2
    go_ret
    exact ⟨rfl, _, rfl⟩
  · go_enter Tryz.func80, Tryz.ntmps80
    go_wp2_with fail
    go_quiet (fail)
    go_wp2
    go_ret
    exact ⟨rfl, _, rfl⟩
/-- 'append(out, b0, b1)' of two bytes. -/
theorem app_u8_2 (wr : World) (base : Nat) (v : Value) (n : Nat) (xs : List Int) (hown : wr.ownsRow base 5 1 v n (xs.map (Value.int .u8))) (x y : Int) (hn : n < 1099511627776) (hbase : base ≤ wr.heap.size) :
    ∃ v' w', (Builtin.append_ #[104, 104] 104 #[v, .slice (some ⟨wr.heap.size, 0, none⟩) 2 2]).run Tryz.prog (wr.alloc (.cells #[.int .u8 x, .int .u8 y] 5)) = .ok v' w' ∧
      w'.ownsRow base 5 1 v' (n + 2) ((xs ++ [x, y]).map (Value.int .u8)) ∧ Below base wr w' := by
  obtain ⟨i0, hi, hz0, hz1, hz2⟩ := info_parts infoU8
  obtain ⟨v', w', h1, h2, h3, h4⟩ := run_append_own (P := Tryz.prog) (wr.alloc (.cells #[.int .u8 x, .int .u8 y] 5)) base 104 104 5 i0 (.int .u8 0) 1 1 Tryz.underlying104 hi hz0 hz1 hz2 rfl (by decide) v n _ (hown.alloc _) ⟨wr.heap.size, 0, none⟩ 2 2 [.int .u8 x, .int .u8 y] rfl
    (fun j u hj => by
      match j, hj with
      | 0, hj => simp at hj; subst hj; simp [Addr.add, World.cell?_alloc_mark]
      | 1, hj => simp at hj; subst hj; simp [Addr.add, World.cell?_alloc_mark])
    (fun u hu => by simp at hu; rcases hu with rfl | rfl <;> rfl) (by unfold maxLen; omega) (by omega) (by simp; omega)
  exact ⟨v', w', h1, by simpa using h2, ((Below.refl base wr).alloc hbase _).trans (ownBelow (hown.alloc _) h3 (Nat.le_refl _) (by simp; omega))⟩
set_option maxRecDepth 100000 in
theorem ref03_put (big : Bool) (u : Int) (h0 : 0 ≤ u) (h1 : u < 65536) (base : Nat) (v : Value) (xs : List Int) (w : World) (hown : w.ownsRow base 5 1 v xs.length (xs.map (Value.int .u8))) (hn : xs.length < 1000000000) (hbase : base ≤ w.heap.size) :
    Calls Tryz.prog 89 #[v, .int .i64 u, .bool big] w fun e w' => ∃ v', e = .returned v' ∧ w'.ownsRow base 5 1 v' (xs ++ put16 big u).length ((xs ++ put16 big u).map (Value.int .u8)) ∧ Below base w w' := by
  obtain ⟨va, vl, vc, rfl⟩ := own_slice hown
  have d1 : u.tdiv 256 = u / 256 := Int.tdiv_eq_ediv_of_nonneg h0
  have d2 : u.tmod 256 = u % 256 := Int.tmod_eq_emod_of_nonneg h0
  obtain ⟨p, hp⟩ : ∃ p, u / 256 = p := ⟨_, rfl⟩
  obtain ⟨q, hq⟩ : ∃ q, u % 256 = q := ⟨_, rfl⟩
  have hp1 : 0 ≤ p ∧ p < 256 := by omega
  have hq1 : 0 ≤ q ∧ q < 256 := by omega
  have HPU := Lib.hid (show put16 big u = if big then [p, q] else [q, p] by unfold put16; rw [hp, hq])
  rw [hp] at d1
  rw [hq] at d2
  clear hp hq
  obtain ⟨hp2, hp3⟩ := hp1
  obtain ⟨hq2, hq3⟩ := hq1
  cases big
  · obtain ⟨v', w', hr, h2, h3⟩ := app_u8_2 w base _ xs.length xs hown q p (by omega) hbase
    have HA := Lib.hid hr
    clear hr hown
    go_enter Tryz.func89, Tryz.ntmps89
    go_wp2_with (at_builtin; refine wpList_append_run rfl _ _ _ _ rfl _ _ rfl rfl _ _ HA.out ?_)
    go_ret
    exact ⟨_, rfl, by rw [HPU.out]; simpa using h2, h3⟩
  · obtain ⟨v', w', hr, h2, h3⟩ := app_u8_2 w base _ xs.length xs hown p q (by omega) hbase
    have HA := Lib.hid hr
    clear hr hown
    go_enter Tryz.func89, Tryz.ntmps89
    go_wp2_with (at_builtin; refine wpList_append_run rfl _ _ _ _ rfl _ _ rfl rfl _ _ HA.out ?_)
    go_ret
    exact ⟨_, rfl, by rw [HPU.out]; simpa using h2, h3⟩
set_option maxRecDepth 100000 in
theorem utf16_put (big : Bool) (u : Int) (h0 : 0 ≤ u) (h1 : u < 65536) (base : Nat) (v : Value) (xs : List Int) (w : World) (hown : w.ownsRow base 5 1 v xs.length (xs.map (Value.int .u8))) (hn : xs.length < 1000000000) (hbase : base ≤ w.heap.size) :
    Calls Tryz.prog 86 #[.bool big, v, .int .u16 u] w fun e w' => ∃ v', e = .returned v' ∧ w'.ownsRow base 5 1 v' (xs ++ put16 big u).length ((xs ++ put16 big u).map (Value.int .u8)) ∧ Below base w w' := by
  obtain ⟨va, vl, vc, rfl⟩ := own_slice hown
  cases big
  · obtain ⟨v', w', hr, h2, h3⟩ := app_u8_2 w base _ xs.length xs hown (u % 256) (u / 256) (by omega) hbase
    have HA := Lib.hid hr
    clear hr hown
    go_enter Tryz.func86, Tryz.ntmps86
    go_wp2_with (at_builtin; refine wpList_append_run rfl _ _ _ _ rfl _ _ rfl rfl _ _ HA.out ?_)
    go_ret
    exact ⟨_, rfl, by unfold put16; simpa using h2, h3⟩
  · obtain ⟨v', w', hr, h2, h3⟩ := app_u8_2 w base _ xs.length xs hown (u / 256) (u % 256) (by omega) hbase
    have HA := Lib.hid hr
    clear hr hown
    go_enter Tryz.func86, Tryz.ntmps86
    go_wp2_with (at_builtin; refine wpList_append_run rfl _ _ _ _ rfl _ _ rfl rfl _ _ HA.out ?_)
    go_ret
    exact ⟨_, rfl, by unfold put16; simpa using h2, h3⟩
end Go.Proofs.YthahfoliblgegaaGreatDoor
