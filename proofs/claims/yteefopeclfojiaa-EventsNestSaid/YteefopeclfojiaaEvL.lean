/-
  Layer 16: the walks of events.Kids and Own.
-/
import Derived.Test.YteefopeclfojiaaEvK
import Derived.Test.YteefopeclfojiaaSl
import Derived.RangeFuncBox
namespace Go.Proofs.Yteefopeclfojiaa
open Go.RowKit
attribute [local go_sem] Oper.semAt_some
/-- an append whose run is known, inside a fence. -/
theorem wpListIn_appK {F : Fence} {n : Nat} {P : Program} {w : World} {ops : Array Oper} {rest : List Oper} {o : Oper} {a : Act} {Q : Exit → Act → World → Prop}
    (hg : o.guard = none) (s x : Operand) (t tx : TypeId) (hop : o.op = Op.call { callee := Callee.builtin Builtin.append, args := #[s, x], argTypes := #[t, tx] })
    (v xv : Value) (hs : a.eval s = v) (hx : a.eval x = xv) (v' : Value) (w' : World)
    (hr : (Builtin.append_ #[t, tx] o.type #[v, xv]).run P w = .ok v' w') (hK : wpListIn F n P ops Q rest (a.put o.dst v') w') :
    wpListIn F n P ops Q (o :: rest) a w := by
  refine wpListIn_plain hg fun K hK' => ?_
  unfold Oper.wpIn
  refine ⟨?_, ?_⟩
  · simp [Oper.about, hop, resolve, Target.leads, Sem.run_pure]
  · rw [Oper.semAt_plain F _ _ (by rw [hop]; intro c hc'; cases hc')]
    simp [execOp, hop, resolve, invoke, builtin, hs, hx, hr, Result.andThen]
    exact hK' _ _ hK
theorem keepsOthers_of_rowK {W W' : World} {base : Nat} {e : TypeId} {size : Nat} {v : Value} {n : Nat} {xs : List Value} (hrow : W.ownsRow base e size v n xs) (hg : W.grownBy W' v.ownBlock) : KeepsOthers W W' := by
  refine KeepsOthers.of_grownBy hg fun j o ej hj => ?_
  rcases hrow.2 with ⟨rfl, _⟩ | ⟨g, cap, cur, rfl, _, hgb, _⟩
  · simp [Value.ownBlock] at ej
  · obtain rfl : g = j := by simpa [Value.ownBlock] using ej
    rw [hgb] at hj; cases hj; rfl
/-- an element's children; none, if there is no element there. -/
def kidsP (es : List Evt) (i : Int) : List Nat := match atP es i with
  | none => []
  | some g => kidsL (endO g) i.toNat (endN g i)
theorem atP_nest {es : List Evt} {i : Int} {g : Gr} (h : atP es i = some g) : growP es = some g ∧ Nest es (endO g) ∧ (∀ (p : Nat) (u : Value), aGet g.ends (p : Int) = some u → ∃ j : Nat, u = .int .i64 j) ∧
    ∃ p j : Nat, i = (p : Int) ∧ endO g p = some j ∧ endN g p = j ∧ p < j ∧ j < es.length := by
  obtain ⟨p, j, hp, -, ha, hpj, hj⟩ := atP_end h
  have hg : growP es = some g := by
    unfold atP at h
    split at h
    · exact h
    · cases h
  obtain ⟨h1, h2⟩ := growP_nest hg
  exact ⟨hg, h1, h2, p, j, hp, by unfold endO; rw [ha]; rfl, by unfold endN; rw [ha]; rfl, hpj, hj⟩
def natC (l : List Nat) : List Int := l.map fun k : Nat => (k : Int)
theorem natC_snoc (l : List Nat) (x : Nat) : natC (l ++ [x]) = natC l ++ [(x : Int)] := by simp [natC]
theorem ownsRow_base {w : World} {base base' : Nat} {e : TypeId} {size : Nat} {v : Value} {n : Nat} {xs : List Value} (h : w.ownsRow base e size v n xs) (hb : base' ≤ base) : w.ownsRow base' e size v n xs := by
  obtain ⟨h1, h2⟩ := h
  refine ⟨h1, ?_⟩
  rcases h2 with h2 | ⟨g, cap, cur, rfl, h3, h4⟩
  · exact .inl h2
  · exact .inr ⟨g, cap, cur, rfl, Nat.le_trans hb h3, h4⟩
/-- the variable that collects children. -/
def KidI (w : World) (base : Nat) : List Nat → World → Prop := fun pre W => (∃ v, Boxed W w.heap.size 31 v ∧ W.ownsRow base 3 1 v pre.length ((natC pre).map (Value.int .i64))) ∧ Below w.heap.size w W ∧ base ≤ W.heap.size
theorem kidI_own (w : World) (base B : Nat) (hB : w.heap.size + 1 ≤ B) : OwnM NoMu B (KidI w base) := by
  rintro pre X Y ⟨⟨v, hv, hr⟩, hb, hbs⟩ ht
  have hbl := ht.below (C := w.heap.size) (by omega) hb.size
  obtain ⟨row, hg, hrow⟩ := ht
  refine ⟨⟨v, hv.kept hg (fun e => ?_), hr.kept hg ?_⟩, hb.trans hbl, Nat.le_trans hbs hbl.size⟩
  · have := (hrow _ e.symm).1
    omega
  · cases hvb : v.ownBlock with
    | none => exact .inl rfl
    | some g =>
      refine .inr fun e => ?_
      obtain ⟨_, o, ho, hc⟩ := hrow g e.symm
      rcases hr.2 with ⟨rfl, _⟩ | ⟨g', cap, cur, rfl, _, hg', _⟩
      · simp [Value.ownBlock] at hvb
      · simp only [Value.ownBlock, Option.some_inj] at hvb
        subst hvb
        rw [hg'] at ho
        cases ho
        rcases hc with hc | hc
        · cases hc
        · exact hc
theorem collect_kid {W : World} {B0 base : Nat} {v : Value} {n : Nat} {xs : List Int} (hv : Boxed W B0 31 v) (hrow : W.ownsRow base 3 1 v n (xs.map (Value.int .i64))) (x : Int)
    (hB0 : B0 < base) (hbase : base ≤ W.heap.size) (hn : n < 1099511627776) :
    ∃ a l c w1, (Builtin.append_ #[31, 31] 31 #[v, .slice (some ⟨W.heap.size, 0, none⟩) 1 1]).run Try.prog (W.alloc (.cells #[.int .i64 x] 3)) = .ok (.slice a l c) w1 ∧ w1.cell? ⟨B0, 0, none⟩ = some v ∧ w1.frozen? ⟨B0, 0, none⟩ = false ∧
      Boxed (w1.setCell ⟨B0, 0, none⟩ (.slice a l c)) B0 31 (.slice a l c) ∧
      (w1.setCell ⟨B0, 0, none⟩ (.slice a l c)).ownsRow base 3 1 (.slice a l c) (n + 1) ((xs ++ [x]).map (Value.int .i64)) ∧
      KeepsOthers W (w1.setCell ⟨B0, 0, none⟩ (.slice a l c)) ∧ Below B0 W (w1.setCell ⟨B0, 0, none⟩ (.slice a l c)) ∧
      (∀ k, k < base → k ≠ B0 → (w1.setCell ⟨B0, 0, none⟩ (.slice a l c)).heap[k]? = W.heap[k]?) := by
  obtain ⟨v', w1, hr, ho, hg⟩ := app_int_g W base v n xs hrow x hn hbase
  obtain ⟨a, l, c, rfl⟩ := own_slice ho
  have hk : ∀ k, k < base → w1.heap[k]? = W.heap[k]? := fun k hk => (hg.block k (by simp; omega) (fun e => by have := (hrow.lt k e.symm).1; omega)).trans (Below.heap_alloc W _ k (by omega))
  have hv1 : Boxed w1 B0 31 v := (hk B0 hB0).trans hv
  refine ⟨a, l, c, w1, hr, hv1.cell, hv1.frozen, hv1.set _, ?_, ((KeepsOthers.alloc _ _).trans (keepsOthers_of_rowK (hrow.alloc _) hg)).trans (KeepsOthers.setCell _ _ _), ?_, ?_⟩
  · exact ho.kept (grownBy_setCell' w1 B0 _) (.inr (hv1.not_row (by decide) ho).symm)
  · exact (((Below.refl B0 W).alloc (by omega) _).grown hg (by simp; omega) (fun k e => by have := (hrow.lt k e).1; omega)).setCell (p := ⟨B0, 0, none⟩) (Nat.le_refl _) _
  · intro k h1 h2
    exact (Below.heap_setCell w1 ⟨B0, 0, none⟩ _ k h2).trans (hk k h1)
set_option maxRecDepth 100000 in
set_option maxHeartbeats 4000000 in
theorem events_Kids (B : Nat) (es : List Evt) (v : Value) (i : Int) (w : World) (hr : EvsR B w v es) (hB : B ≤ w.heap.size) (hn : es.length ≤ 999999) (hz : ∀ e ∈ es, e.at_.length ≤ 140737488351232) :
    Calls Try.prog 18 #[v, .int .i64 i] w fun r w' => ∃ u, r = .returned u ∧ w'.ownsRow w.heap.size 3 1 u (kidsP es i).length ((natC (kidsP es i)).map (Value.int .i64)) ∧ Below w.heap.size w w' := by
  refine (callsIn_wide (n := 5)).1 ?_
  refine callsIn_of_wp_marks Try.func18 rfl trivial ?_ rfl
  simp only [Try.ntmps18, List.size_toArray, List.length_cons, List.length_nil, Nat.reduceAdd, Nat.reduceSub, Array.replicate_succ, Array.replicate_zero, List.push_toArray, List.append_toArray, List.nil_append, List.cons_append]
  have hb1 := (Below.refl w.heap.size w).alloc (Nat.le_refl _) (.cells #[.slice none 0 0] 31)
  have bO := Boxed.new w 31 (.slice none 0 0)
  have hg := events_at B es v i _ (hr.below hb1 hB) (Nat.le_trans hB hb1.size) (by omega) hz
  have hs1 : (w.alloc (.cells #[.slice none 0 0] 31)).heap.size = w.heap.size + 1 := by simp
  unfold kidsP
  obtain ⟨R, hR⟩ : ∃ R, atP es i = R := ⟨_, rfl⟩
  rw [hR] at hg ⊢
  have hr0 := hr
  obtain ⟨avs, ⟨a, cap, rfl, -⟩, -⟩ := hr0
  obtain ⟨nn, hnn⟩ : ∃ n, es.length = n := ⟨_, rfl⟩
  rw [hnn] at hg
  have H := Lib.hid hg
  clear hg
  cases R with
  | none =>
    gi_wp2_with (refine ⟨trivial, ?_⟩; gi_at_call 63; refine (callsIn_wide.2 H.out).mono ?_; rintro e w2 ⟨rfl, hb2⟩; have bO2 : Boxed w2 _ _ _ := (hb2.block _ (by omega)).trans bO; have c2 := bO2.cell; have f2 := bO2.frozen)
    have b3 := bO2.set (.slice none 0 0)
    refine ⟨.slice none 0 0, ?_, .slice none 0 0, rfl, World.ownsRow_nil _ _ _ _, (hb1.trans (hb2.mono hb1.size)).setCell (p := ⟨w.heap.size, 0, none⟩) (Nat.le_refl _) _⟩
    have c3 := b3.cell
    simp [results, Try.f18, go_sem, c3]
  | some g =>
    obtain ⟨-, hN, hcell, p0, j, hip, hE, hEn, hpj, hj⟩ := atP_nest hR
    subst hip
    simp only [hEn, Int.toNat_natCast]
    have hlt : ∀ p j, endO g p = some j → p < j ∧ j < 1000000 := fun p j h => by
      obtain ⟨h1, h2, -⟩ := hN.lt p j h
      exact ⟨h1, by omega⟩
    clear hR hEn hN
    gi_wp2_with first
      | (refine ⟨trivial, ?_⟩; gi_at_call 63; refine (callsIn_wide.2 H.out).mono ?_; rintro e w2 ⟨p, mb, rfl, hb2, ht, hm, hp, hmb⟩; have bO2 : Boxed w2 _ _ _ := (hb2.block _ (by omega)).trans bO)
      | (refine ⟨trivial, ?_⟩; gi_at_call 64; refine (tree_kids_in Fence.wide _ trivial rfl _ _ _).mono ?_; rintro e w3 ⟨rfl, rfl⟩)
    have hT : TrK (w2.heap.size + 1) w2.heap.size p mb p0 (.slice a nn cap) g ((w2.alloc (.cells #[.pointer (some ⟨p, 0, none⟩)] 73)).alloc (.cells #[.int .i64 (p0 : Nat)] 3)) := by
      have h1 := Boxed.new (w2.alloc (.cells #[.pointer (some ⟨p, 0, none⟩)] 73)) 3 (.int .i64 (p0 : Nat))
      rw [World.size_alloc] at h1
      exact ⟨h1, (Boxed.new w2 _ _).alloc _, (ht.alloc _).alloc _, (hm.alloc _).alloc _⟩
    have hb3 : Below w.heap.size w ((w2.alloc (.cells #[.pointer (some ⟨p, 0, none⟩)] 73)).alloc (.cells #[.int .i64 (p0 : Nat)] 3)) := by
      have h2 := hb1.trans (hb2.mono hb1.size)
      exact (h2.alloc h2.size _).alloc (by rw [World.size_alloc]; have := h2.size; omega) _
    have bO3 : Boxed ((w2.alloc (.cells #[.pointer (some ⟨p, 0, none⟩)] 73)).alloc (.cells #[.int .i64 (p0 : Nat)] 3)) w.heap.size _ _ := (bO2.alloc _).alloc _
    have hs2 := hb2.size
    have hs3 : ((w2.alloc (.cells #[.pointer (some ⟨p, 0, none⟩)] 73)).alloc (.cells #[.int .i64 (p0 : Nat)] 3)).heap.size = w2.heap.size + 2 := by simp
    obtain ⟨w3, hw3⟩ : ∃ x, ((w2.alloc (.cells #[.pointer (some ⟨p, 0, none⟩)] 73)).alloc (.cells #[.int .i64 (p0 : Nat)] 3)) = x := ⟨_, rfl⟩
    rw [hw3] at hT hb3 bO3 hs3 ⊢
    have hpl := hT.tr.lt
    have hml := hT.mp.lt
    have hpl2 := ht.lt
    have hml2 := hm.lt
    clear hw3 H hb1 hb2 bO bO2 ht hm
    obtain ⟨q, hq⟩ : ∃ q, w2.heap.size = q := ⟨_, rfl⟩
    rw [hq] at hT hs3 hs2 hpl2 hml2 ⊢
    clear hq
    refine wpIn_rangeFunc_ownP NoMu rfl (by omega) (gf := 96) (lb := #[.pointer (some ⟨q + 1, 0, none⟩), .pointer (some ⟨q, 0, none⟩)]) rfl trivial (enters_of Try.func96 (by kernel_rfl) rfl)
      (kids_stops _ (by omega) (q + 1) q p mb p0 j (.slice a nn cap) g hcell hlt hE w3 hT) KeepsB.trans (fun W l o o' h1 _ _ _ => KeepsB.putObj (B := w3.heap.size) (fun b hb => by simp at hb; omega) l o' h1) (Below.refl _ _) (fun _ => rfl)
      (KidI w (q + 2)) (fun _ _ _ => False) (kidI_own w _ _ (by omega)) (fun _ _ _ _ h _ => h.elim)
      ⟨⟨_, bO3, World.ownsRow_nil _ _ _ _⟩, hb3, by omega⟩
      (fun x a' W => a' = { tmps := #[.slice a nn cap, .int .i64 (p0 : Nat), undef, undef, .pointer (some ⟨w.heap.size, 0, none⟩), .pointer (some ⟨p, 0, none⟩), .int .i64 (x : Nat), .slice a nn cap, .int .i64 (p0 : Nat), .pointer (some ⟨p, 0, none⟩), .pointer (some ⟨p, 0, none⟩), .bool true, .pointer (some ⟨p, 0, none⟩), .int .i64 (p0 : Nat), .func (.func 96) #[] #[.pointer (some ⟨q + 1, 0, none⟩), .pointer (some ⟨q, 0, none⟩)], .int .i64 (x : Nat), undef, undef, undef, undef, undef], defers := [] })
      (fun x a' _ _ _ _ h _ _ => h) ?assign ?body ?done ?stop
    case assign =>
      rintro l pre x W K hI hK
      gi_wp2
      exact hK _ _ (KeepsFrom.refl _ _) (fun k _ h => ⟨rfl, Nat.le_refl _⟩) hI rfl
    case body =>
      rintro l pre x a' W hl ⟨⟨u, hv, hrw⟩, hB', hWs⟩ rfl hsp hlen
      have c0 := hv.cell
      have f0 := hv.frozen
      obtain ⟨a1, l1, c1, w4, hrun, d1, d2, d3, d4, d5, d6, d7⟩ := collect_kid hv hrw (x : Int) (by omega) hWs (by omega)
      have HR := Lib.hid hrun
      clear hrun
      gi_wp2_with (gi_at_builtin; refine wpListIn_appK rfl _ _ _ _ rfl _ _ rfl rfl _ _ HR.out ?_)
      refine ⟨d5.from _, fun k hk hkl => ⟨d7 k (by simp at hk; omega) (by simp at hk; omega), d6.size⟩, ⟨⟨_, d3, ?_⟩, hB'.trans d6, Nat.le_trans hWs d6.size⟩⟩
      rw [natC_snoc, List.length_append]
      exact d4
    case done =>
      rintro D ys W hD rfl ⟨⟨u, hv, hrw⟩, hB', -⟩ hK
      have c0 := hv.cell
      have f0 := hv.frozen
      obtain ⟨a1, l1, c1, rfl⟩ := own_slice hrw
      have hset := hv.set (.slice a1 l1 c1)
      have hro : (W.setCell ⟨w.heap.size, 0, none⟩ (.slice a1 l1 c1)).ownsRow (q + 2) 3 1 (.slice a1 l1 c1) _ _ := ownsRow_setCell_below hrw (by show w.heap.size < q + 2; omega) _
      have HS := Lib.hid hset
      have HO := Lib.hid hro
      have HKp := Lib.hid ((KeepsOthers.setCell W ⟨w.heap.size, 0, none⟩ (.slice a1 l1 c1)).same D _ hK rfl)
      have HBl := Lib.hid (hB'.setCell (p := ⟨w.heap.size, 0, none⟩) (Nat.le_refl _) (.slice a1 l1 c1))
      clear hset hro
      gi_wp2_with fail
      have hK' := HKp.out
      refine ⟨by simp, .inl ⟨_, _, rfl, run_takeDeferred hK', ?_⟩⟩
      have hc5 := cell_kept HS.out.cell (grownBy_putObj' _ D (.deferred none)) (fun r e => by cases e; exact ⟨_, hK', rfl⟩)
      refine ⟨.slice a1 l1 c1, ?_, .slice a1 l1 c1, rfl, ownsRow_base (ownsRow_putObj HO.out _ hK' rfl) (by omega), HBl.out.trans (belowK_b (w := w) (Nat.le_refl _) _ D _ _ (by omega) hK' rfl rfl)⟩
      simp [results, Try.f18, go_sem, hc5]
    case stop =>
      rintro D c pre W hD ht h
      exact h.elim
end Go.Proofs.Yteefopeclfojiaa
