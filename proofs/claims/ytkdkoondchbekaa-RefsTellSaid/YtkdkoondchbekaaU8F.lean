/-
  The walks of utf8: Loose, Valid, Scalars over the iterator; Text.
-/
import Derived.Test.YtkdkoondchbekaaU8E
namespace Go.Proofs.Ytkdkoondchbekaa
open Go.RowKit Go.Shelf
attribute [local go_sem] Oper.semAt_some
/-- what the loop appends at a piece. -/
def mendE (r : Int) : List Int := if isSc r then encN r else [239, 191, 189]
def gotE (l : List (Nat × Int)) : List Int := l.flatMap fun x => mendE x.2
def firstE : List (Nat × Int) → Int
  | [] => -1
  | x :: r => if isSc x.2 then firstE r else x.1
theorem firstE_snoc (x : Nat × Int) : ∀ l : List (Nat × Int), firstE (l ++ [x]) = if firstE l < 0 then (if isSc x.2 then -1 else (x.1 : Int)) else firstE l
  | [] => by simp [firstE]
  | y :: r => by
    rw [List.cons_append, firstE, firstE]
    by_cases h : isSc y.2
    · rw [if_pos h, if_pos h, firstE_snoc x r]
    · rw [if_neg h, if_neg h, if_neg (by omega)]
theorem firstE_lo : ∀ l : List (Nat × Int), -1 ≤ firstE l
  | [] => by simp [firstE]
  | y :: r => by
    rw [firstE]
    split
    · exact firstE_lo r
    · omega
theorem mendE_len (r : Int) : (mendE r).length ≤ 4 := by
  unfold mendE
  split
  · exact encN_len r
  · simp
theorem gotE_len (l : List (Nat × Int)) : (gotE l).length ≤ 4 * l.length := flatMap_len (fun x : Nat × Int => mendE x.2) 4 (fun x => mendE_len x.2) l
theorem gotE_snoc (l : List (Nat × Int)) (x : Nat × Int) : gotE (l ++ [x]) = gotE l ++ mendE x.2 := by simp [gotE]
theorem wrongS : (⟨#[239, 191, 189]⟩ : ByteArray) = strOfNums [239, 191, 189] := rfl
theorem strOfNums_inv (l : List Int) (h : isBs l) : ((strOfNums l).data.toList.map fun c => (c.toNat : Int)) = l := nums_strOfNums l h
/-- an append whose run is known, inside a fence. -/
theorem wpListIn_append_run {F : Fence} {n : Nat} {P : Program} {w : World} {ops : Array Oper} {rest : List Oper} {o : Oper} {a : Act} {Q : Exit → Act → World → Prop}
    (hg : o.guard = none) (s x : Operand) (t tx : TypeId) (hop : o.op = Op.call { callee := Callee.builtin Builtin.append, args := #[s, x], argTypes := #[t, tx] })
    (v xv : Value) (hs : a.eval s = v) (hx : a.eval x = xv) (v' : Value) (w' : World)
    (hr : (Builtin.append_ #[t, tx] o.type #[v, xv]).run P w = .ok v' w') (hK : wpListIn F n P ops Q rest (a.put o.dst v') w') :
    wpListIn F n P ops Q (o :: rest) a w := by
  refine wpListIn_plain hg fun K hK' => ?_
  unfold Oper.wpIn
  refine ⟨?_, ?_⟩
  · simp [Oper.about, hop, resolve, Target.leads, Sem.run_pure]
  · rw [Oper.semAt_plain F _ _ (by rw [hop]; intro c hc'; cases hc')]
    simp [execOp, hop, resolve, invoke, builtin, hs, hx, hr, Result.andThen]
    exact hK' _ _ hK
theorem keepsOthers_of_row {W W' : World} {base : Nat} {e : TypeId} {size : Nat} {v : Value} {n : Nat} {xs : List Value} (hrow : W.ownsRow base e size v n xs) (hg : W.grownBy W' v.ownBlock) : KeepsOthers W W' := by
  refine KeepsOthers.of_grownBy hg fun j o ej hj => ?_
  rcases hrow.2 with ⟨rfl, _⟩ | ⟨g, cap, cur, rfl, _, hgb, _⟩
  · simp [Value.ownBlock] at ej
  · obtain rfl : g = j := by simpa [Value.ownBlock] using ej
    rw [hgb] at hj; cases hj; rfl
theorem cell_ne {W : World} {a b : Nat} (h : a ≠ b) (u : Value) : (W.setCell ⟨b, 0, none⟩ u).cell? ⟨a, 0, none⟩ = W.cell? ⟨a, 0, none⟩ :=
  World.cell?_of_block (Below.heap_setCell W ⟨b, 0, none⟩ u a h)
/-- 'out = append(out, t...)' of a boxed variable: all that a round owes. -/
theorem collect_step {W : World} {B0 base Bs : Nat} {v : Value} {n : Nat} {xs : List Int} (hv : Boxed W B0 37 v) (hrow : W.ownsRow base 5 1 v n (xs.map (Value.int .u8))) (t : ByteArray)
    (hB0 : B0 < base) (hBs : Bs < base) (hne : Bs ≠ B0) (hbase : base ≤ W.heap.size) (hn : n + t.size < 1099511627776) :
    ∃ a l c w1, (Builtin.append_ #[37, 9] 37 #[v, .string t]).run Try.prog W = .ok (.slice a l c) w1 ∧ w1.cell? ⟨B0, 0, none⟩ = some v ∧ w1.frozen? ⟨B0, 0, none⟩ = false ∧
      Boxed (w1.setCell ⟨B0, 0, none⟩ (.slice a l c)) B0 37 (.slice a l c) ∧
      (w1.setCell ⟨B0, 0, none⟩ (.slice a l c)).ownsRow base 5 1 (.slice a l c) (n + t.size) ((xs ++ t.data.toList.map fun c => (c.toNat : Int)).map (Value.int .u8)) ∧
      KeepsOthers W (w1.setCell ⟨B0, 0, none⟩ (.slice a l c)) ∧ KeepsBox Bs W (w1.setCell ⟨B0, 0, none⟩ (.slice a l c)) ∧ Below B0 W (w1.setCell ⟨B0, 0, none⟩ (.slice a l c)) ∧
      (∀ B1 ty u, B1 < base → B1 ≠ B0 → Boxed W B1 ty u → Boxed (w1.setCell ⟨B0, 0, none⟩ (.slice a l c)) B1 ty u) := by
  obtain ⟨v', w1, hr, ho, hg⟩ := app_str_g W base v n xs hrow t hn hbase
  obtain ⟨a, l, c, rfl⟩ := own_slice ho
  have hk : ∀ k, k < base → w1.heap[k]? = W.heap[k]? := fun k hk => hg.block k (by omega) (fun e => by have := (hrow.lt k e.symm).1; omega)
  have hv1 : Boxed w1 B0 37 v := (hk B0 hB0).trans hv
  refine ⟨a, l, c, w1, hr, hv1.cell, hv1.frozen, hv1.set _, ?_, (keepsOthers_of_row hrow hg).trans (KeepsOthers.setCell _ _ _), ?_, ?_, ?_⟩
  · exact ho.kept (grownBy_setCell' w1 B0 _) (.inr (hv1.not_row (by decide) ho).symm)
  · exact (cell_ne hne _).trans (World.cell?_of_block (hk Bs hBs))
  · exact ((Below.refl B0 W).grown hg (by omega) (fun k e => by have := (hrow.lt k e).1; omega)).setCell (p := ⟨B0, 0, none⟩) (Nat.le_refl _) _
  · intro B1 ty u h1 h2 hb
    exact Boxed.other (show Boxed w1 B1 ty u from (hk B1 h1).trans hb) h2 _
theorem collect_int {W : World} {B0 base Bs : Nat} {v : Value} {n : Nat} {xs : List Int} (hv : Boxed W B0 66 v) (hrow : W.ownsRow base 3 1 v n (xs.map (Value.int .i64))) (x : Int)
    (hB0 : B0 < base) (hBs : Bs < base) (hne : Bs ≠ B0) (hbase : base ≤ W.heap.size) (hn : n < 1099511627776) :
    ∃ a l c w1, (Builtin.append_ #[66, 66] 66 #[v, .slice (some ⟨W.heap.size, 0, none⟩) 1 1]).run Try.prog (W.alloc (.cells #[.int .i64 x] 3)) = .ok (.slice a l c) w1 ∧ w1.cell? ⟨B0, 0, none⟩ = some v ∧ w1.frozen? ⟨B0, 0, none⟩ = false ∧
      Boxed (w1.setCell ⟨B0, 0, none⟩ (.slice a l c)) B0 66 (.slice a l c) ∧
      (w1.setCell ⟨B0, 0, none⟩ (.slice a l c)).ownsRow base 3 1 (.slice a l c) (n + 1) ((xs ++ [x]).map (Value.int .i64)) ∧
      KeepsOthers W (w1.setCell ⟨B0, 0, none⟩ (.slice a l c)) ∧ KeepsBox Bs W (w1.setCell ⟨B0, 0, none⟩ (.slice a l c)) ∧ Below B0 W (w1.setCell ⟨B0, 0, none⟩ (.slice a l c)) ∧
      (∀ B1 ty u, B1 < base → B1 ≠ B0 → Boxed W B1 ty u → Boxed (w1.setCell ⟨B0, 0, none⟩ (.slice a l c)) B1 ty u) := by
  obtain ⟨v', w1, hr, ho, hg⟩ := app_int_g W base v n xs hrow x hn hbase
  obtain ⟨a, l, c, rfl⟩ := own_slice ho
  have hk : ∀ k, k < base → w1.heap[k]? = W.heap[k]? := fun k hk => (hg.block k (by simp; omega) (fun e => by have := (hrow.lt k e.symm).1; omega)).trans (Below.heap_alloc W _ k (by omega))
  have hv1 : Boxed w1 B0 66 v := (hk B0 hB0).trans hv
  refine ⟨a, l, c, w1, hr, hv1.cell, hv1.frozen, hv1.set _, ?_, ((KeepsOthers.alloc _ _).trans (keepsOthers_of_row (hrow.alloc _) hg)).trans (KeepsOthers.setCell _ _ _), ?_, ?_, ?_⟩
  · exact ho.kept (grownBy_setCell' w1 B0 _) (.inr (hv1.not_row (by decide) ho).symm)
  · exact (cell_ne hne _).trans (World.cell?_of_block (hk Bs hBs))
  · exact (((Below.refl B0 W).alloc (by omega) _).grown hg (by simp; omega) (fun k e => by have := (hrow.lt k e).1; omega)).setCell (p := ⟨B0, 0, none⟩) (Nat.le_refl _) _
  · intro B1 ty u h1 h2 hb
    exact Boxed.other (show Boxed w1 B1 ty u from (hk B1 h1).trans hb) h2 _
def posAll (l : List (Nat × Int)) : Prop := ∀ x ∈ l, 0 ≤ x.2
def negSome (l : List (Nat × Int)) : Prop := ∃ x ∈ l, x.2 < 0
theorem posAll_snoc {l : List (Nat × Int)} {x : Nat × Int} (h : posAll l) (hx : 0 ≤ x.2) : posAll (l ++ [x]) := by
  intro y hy
  rw [List.mem_append, List.mem_singleton] at hy
  rcases hy with hy | rfl
  · exact h y hy
  · exact hx
theorem own_mapsnoc (l : List (Nat × Int)) (x : Nat × Int) : (l ++ [x]).map (·.2) = l.map (·.2) ++ [x.2] := by simp
def ScalI (w : World) (s : ByteArray) : List (Nat × Int) → World → Prop :=
  fun pre W => (((∃ v, Boxed W w.heap.size 66 v ∧ W.ownsRow (w.heap.size + 3) 3 1 v pre.length ((pre.map (·.2)).map (Value.int .i64)) ∧ True) ∧ Boxed W (w.heap.size + 1) 4 (.bool false) ∧ Boxed W (w.heap.size + 1 + 1) 9 (.string s)) ∧ Below w.heap.size w W) ∧ posAll pre
def ScalIx (w : World) : Code → List (Nat × Int) → World → Prop :=
  fun c pre W => ((Boxed W w.heap.size 66 (.slice none 0 0) ∧ Boxed W (w.heap.size + 1) 4 (.bool false)) ∧ Below w.heap.size w W) ∧ c = .ret ∧ negSome pre
set_option maxRecDepth 100000 in
set_option maxHeartbeats 2000000 in
theorem utf8_Scalars0 (s : ByteArray) (hs : s.size ≤ 137438953472) (w : World) :
    Calls Try.prog 36 #[.string s] w fun e w' => ∃ v, ((e = .returned (.tuple #[v, .bool true]) ∧ posAll (els s) ∧ w'.ownsRow (w.heap.size + 3) 3 1 v (els s).length (((els s).map (·.2)).map (Value.int .i64))) ∨
      (e = .returned (.tuple #[.slice none 0 0, .bool false]) ∧ negSome (els s))) ∧ Below w.heap.size w w' := by
  refine (callsIn_wide (n := 5)).1 ?_
  refine callsIn_of_wp_marks Try.func36 rfl trivial ?_ rfl
  simp only [Try.ntmps36, List.size_toArray, List.length_cons, List.length_nil, Nat.reduceAdd, Nat.reduceSub, Array.replicate_succ, Array.replicate_zero, List.push_toArray, List.append_toArray, List.nil_append, List.cons_append]
  gi_wp2_with (refine ⟨trivial, ?_⟩; gi_at_call 50; refine (utf8_pieces_in Fence.wide _ trivial rfl _ _).mono ?_; rintro e w' ⟨rfl, rfl⟩)
  have bO := Boxed.new w 66 (.slice none 0 0)
  have bF := Boxed.new (w.alloc (.cells #[.slice none 0 0] 66)) 4 (.bool false)
  have bS := Boxed.new ((w.alloc (.cells #[.slice none 0 0] 66)).alloc (.cells #[.bool false] 4)) 9 (.string s)
  rw [World.size_alloc] at bF
  rw [World.size_alloc, World.size_alloc] at bS
  have hB0 : Below w.heap.size w (((w.alloc (.cells #[.slice none 0 0] 66)).alloc (.cells #[.bool false] 4)).alloc (.cells #[.string s] 9)) := (((Below.refl _ w).alloc (Nat.le_refl _) _).alloc (by simp) _).alloc (by simp; omega) _
  refine wpIn_rangeFunc_ownG rfl (by omega) (gf := 62) (lb := #[.pointer (some ⟨w.heap.size + 1 + 1, 0, none⟩)]) rfl trivial (enters_of Try.func62 (by kernel_rfl) rfl)
    (utf8_pieces_stops _ (by omega) (w.heap.size + 1 + 1) s (by omega) _ (by simp) bS.cell) keepsBox_t (keepsBox_b (by simp)) (Below.refl _ _) (fun _ => rfl)
    (ScalI w s)
    (ScalIx w)
    (OwnFrom.and (OwnFrom.and (OwnFrom.and (Own.from (holdsRow_own (w.heap.size + 3) w.heap.size 66 3 1 (fun pre : List (Nat × Int) => pre.length) (fun pre : List (Nat × Int) => (pre.map (·.2)).map (Value.int .i64)) (fun _ _ => True)) _) (OwnFrom.and (Own.from (boxed_own _ _ (fun _ => .bool false)) _) (Own.from (boxed_own _ _ (fun _ => .string s)) _))) (ownFrom_below (Nat.le_refl _) (by simp; omega))) (ownFrom_pure _ _))
    (fun _ => OwnFrom.and (OwnFrom.and (OwnFrom.and (Own.from (boxed_own _ _ (fun _ => .slice none 0 0)) _) (Own.from (boxed_own _ _ (fun _ => .bool false)) _)) (ownFrom_below (Nat.le_refl _) (by simp; omega))) (ownFrom_pure _ _))
    ⟨⟨⟨⟨_, (bO.alloc _).alloc _, World.ownsRow_nil _ _ _ _, trivial⟩, bF.alloc _, bS⟩, hB0⟩, fun x hx => by cases hx⟩
    (fun x => { tmps := #[.string s, undef, .pointer (some ⟨w.heap.size, 0, none⟩), .pointer (some ⟨w.heap.size + 1, 0, none⟩), undef, .int .i64 x.2, .string s, .func (.func 62) #[] #[.pointer (some ⟨w.heap.size + 1 + 1, 0, none⟩)], .int .i64 (x.1 : Nat), .int .i64 x.2, undef, undef, undef, undef, undef, undef, undef], defers := [] }) ?assign ?body ?done ?stop
  case assign =>
    intro l x W K hK
    gi_wp2
    exact hK
  case body =>
    rintro l pre x W ⟨⟨⟨⟨v, hv, hrow, _⟩, hf, hsb⟩, hB⟩, hpos⟩ hlt
    have hvc := hv.cell
    have hvf := hv.frozen
    have hff := hf.frozen
    have hfc := hf.cell
    have hsz : w.heap.size + 3 ≤ W.heap.size := hsb.lt
    by_cases hx : x.2 < 0
    · have hset1 := hv.set (.slice none 0 0)
      have hset2 := (hf.other (B' := w.heap.size) (by omega) (.slice none 0 0)).set (.bool false)
      have HS1 := Lib.hid hset1
      have HS2 := Lib.hid hset2
      have hfc2 := (hf.other (B' := w.heap.size) (by omega) (.slice none 0 0)).cell
      have hff2 := (hf.other (B' := w.heap.size) (by omega) (.slice none 0 0)).frozen
      clear hset1 hset2
      gi_wp2
      exact ⟨((KeepsOthers.setCell _ _ _).trans (KeepsOthers.setCell _ _ _)).from _, ⟨⟨HS1.out.other (by omega) _, HS2.out⟩, (hB.setCell (p := ⟨w.heap.size, 0, none⟩) (Nat.le_refl _) _).setCell (p := ⟨w.heap.size + 1, 0, none⟩) (by simp) _⟩, rfl, x, by simp, hx⟩
    · obtain ⟨a, l', c, w1, hr, hc1, hf1, hbx, ho1, hk1, hkb1, hbl1, hob1⟩ := collect_int (W := W) (B0 := w.heap.size) (base := w.heap.size + 3) (Bs := w.heap.size + 1 + 1) (v := v) (n := pre.length) (xs := pre.map (·.2)) hv hrow x.2 (by omega) (by omega) (by omega) hsz (by omega)
      have HR := Lib.hid hr
      clear hr
      gi_wp2_with (gi_at_builtin; refine wpListIn_append_run rfl _ _ _ _ rfl _ _ rfl rfl _ _ HR.out ?_)
      rw [← own_mapsnoc] at ho1
      exact ⟨hk1.from _, hkb1, ⟨⟨⟨_, hbx, by rw [List.length_append]; exact ho1, trivial⟩, hob1 _ _ _ (by omega) (by omega) hf, hob1 _ _ _ (by omega) (by omega) hsb⟩, hB.trans hbl1⟩, posAll_snoc hpos (by omega)⟩
  case done =>
    rintro D ys W hD rfl ⟨⟨⟨⟨v, hv, hrow, _⟩, hf, hsb⟩, hB⟩, hpos⟩ hK
    have hvc := hv.cell
    have hvf := hv.frozen
    have hff := hf.frozen
    have hfc := hf.cell
    obtain ⟨a, l', c, rfl⟩ := own_slice hrow
    have hset1 := hv.set (.slice a l' c)
    have hset2 := (hf.other (B' := w.heap.size) (by omega) (.slice a l' c)).set (.bool true)
    have HS1 := Lib.hid hset1
    have HS2 := Lib.hid hset2
    have hfc2 := (hf.other (B' := w.heap.size) (by omega) (.slice a l' c)).cell
    have hff2 := (hf.other (B' := w.heap.size) (by omega) (.slice a l' c)).frozen
    have hsame : ∀ (u : World), u = (W.setCell ⟨w.heap.size, 0, none⟩ (.slice a l' c)).setCell ⟨w.heap.size + 1, 0, none⟩ (.bool true) → u.ownsRow (w.heap.size + 3) 3 1 (.slice a l' c) (els s).length (((els s).map (·.2)).map (Value.int .i64)) := by
      rintro u rfl
      exact ownsRow_setCell_below (ownsRow_setCell_below hrow (by simp) _) (by simp) _
    have HO := Lib.hid hsame
    have HKp := Lib.hid (((KeepsOthers.setCell W ⟨w.heap.size, 0, none⟩ (.slice a l' c)).trans (KeepsOthers.setCell _ ⟨w.heap.size + 1, 0, none⟩ (.bool true))).same D _ hK rfl)
    have HBl := Lib.hid ((hB.setCell (p := ⟨w.heap.size, 0, none⟩) (Nat.le_refl _) (.slice a l' c)).setCell (p := ⟨w.heap.size + 1, 0, none⟩) (by simp) (.bool true))
    clear hset1 hset2 hsame
    gi_wp2
    have hK' := HKp.out
    refine ⟨by simp, .inl ⟨_, _, rfl, run_takeDeferred hK', ?_⟩⟩
    have hc5 := cell_kept (HS1.out.other (by omega) (B' := w.heap.size + 1) (.bool true)).cell (grownBy_putObj' _ D (.deferred none)) (fun r e => by cases e; exact ⟨_, hK', rfl⟩)
    have hc6 := cell_kept HS2.out.cell (grownBy_putObj' _ D (.deferred none)) (fun r e => by cases e; exact ⟨_, hK', rfl⟩)
    refine ⟨.tuple #[.slice a l' c, .bool true], ?_, .slice a l' c, .inl ⟨rfl, hpos, ownsRow_putObj (HO.out _ rfl) _ hK' rfl⟩, HBl.out.trans (belowK_b (w := w) (Nat.le_refl _) _ D _ _ (by simp at hD; omega) hK' rfl rfl)⟩
    simp [results, Try.f36, go_sem, hc5, hc6]
  case stop =>
    rintro D c pre W hD ⟨t, ht⟩ ⟨⟨⟨hv, hf⟩, hB⟩, rfl, x, hx, hx0⟩ hK
    gi_wp2
    refine ⟨by simp, .inl ⟨_, _, rfl, run_takeDeferred hK, ?_⟩⟩
    have hc5 := cell_kept hv.cell (grownBy_putObj' _ D (.deferred none)) (fun r e => by cases e; exact ⟨_, hK, rfl⟩)
    have hc6 := cell_kept hf.cell (grownBy_putObj' _ D (.deferred none)) (fun r e => by cases e; exact ⟨_, hK, rfl⟩)
    refine ⟨.tuple #[.slice none 0 0, .bool false], ?_, .slice none 0 0, .inr ⟨rfl, x, by rw [← ht]; exact List.mem_append_left _ hx, hx0⟩, hB.trans (belowK_b (w := w) (Nat.le_refl _) W D _ _ (by simp at hD; omega) hK rfl rfl)⟩
    simp [results, Try.f36, go_sem, hc5, hc6]
theorem posAll_okAll (s : ByteArray) : (posAll (els s) → okAll (nums s) = true ∧ (els s).map (·.2) = (pieces (nums s)).map (·.1)) ∧ (negSome (els s) → okAll (nums s) = false) := by
  have key : ∀ (a : Nat) (l : List (Int × Nat)), (posAll (posP a l) → l.all okP = true) ∧ (negSome (posP a l) → l.all okP = false) ∧ (posP a l).map (·.2) = l.map (·.1) := by
    intro a l
    induction l generalizing a with
    | nil => exact ⟨fun _ => rfl, (fun ⟨x, hx, _⟩ => by cases hx), rfl⟩
    | cons p r ih =>
      obtain ⟨h1, h2, h3⟩ := ih (a + p.2)
      rw [posP, List.all_cons]
      refine ⟨fun h => ?_, fun ⟨x, hx, h0⟩ => ?_, by rw [List.map_cons, List.map_cons, h3]⟩
      · have hp : okP p = true := decide_eq_true (h (a, p.1) (List.mem_cons_self ..))
        rw [hp, h1 fun x hx => h x (List.mem_cons_of_mem _ hx)]; rfl
      · rw [List.mem_cons] at hx
        rcases hx with rfl | hx
        · have hp : okP p = false := decide_eq_false (by show ¬ 0 ≤ p.1; have : p.1 < 0 := h0; omega)
          rw [hp]; rfl
        · rw [h2 ⟨x, hx, h0⟩, Bool.and_false]
  obtain ⟨h1, h2, h3⟩ := key 0 (pieces (nums s))
  exact ⟨fun h => ⟨h1 h, h3⟩, h2⟩
theorem ownsRow_base {w : World} {base base' : Nat} {e : TypeId} {size : Nat} {v : Value} {n : Nat} {xs : List Value} (h : w.ownsRow base e size v n xs) (hb : base' ≤ base) : w.ownsRow base' e size v n xs :=
  ⟨h.1, h.2.elim .inl fun ⟨g, cap, cur, h0, h1, h2⟩ => .inr ⟨g, cap, cur, h0, Nat.le_trans hb h1, h2⟩⟩
theorem utf8_Scalars (s : ByteArray) (w : World) (hs : s.size ≤ 137438953472) :
    Calls Try.prog 36 #[.string s] w fun e w' => ∃ v, e = .returned (.tuple #[v, .bool (okAll (nums s))]) ∧ w'.ownsRow w.heap.size 3 1 v (scalL (nums s)).length ((scalL (nums s)).map (Value.int .i64)) ∧ Below w.heap.size w w' := by
  refine (utf8_Scalars0 s hs w).mono ?_
  rintro e w' ⟨v, ⟨rfl, hp, ho⟩ | ⟨rfl, hn⟩, hb⟩
  · obtain ⟨h1, h2⟩ := (posAll_okAll s).1 hp
    have hsc : scalL (nums s) = (els s).map (·.2) := by unfold scalL; rw [if_pos h1, h2]
    refine ⟨v, by rw [h1], ?_, hb⟩
    rw [hsc, List.length_map]
    exact ownsRow_base ho (by omega)
  · have h1 := (posAll_okAll s).2 hn
    have hsc : scalL (nums s) = [] := by unfold scalL; rw [if_neg (by rw [h1]; decide)]
    refine ⟨_, by rw [h1], ?_, hb⟩
    rw [hsc]
    exact World.ownsRow_nil _ _ _ _
end Go.Proofs.Ytkdkoondchbekaa
