/-
  Layer 7: the walks of Parts and Scan: what the iterator gives is collected, or looked through.
-/
import Derived.Test.YtaheooedcjjckaaDeG
import Derived.Test.YtaheooedcjjckaaSl
import Derived.Maps.AppendAt
namespace Go.Proofs.Ytaheooedcjjckaa
open Go.RowKit
attribute [local go_sem] Oper.semAt_some
/-- an append whose run is known, inside a fence. -/
theorem wpListIn_app {F : Fence} {n : Nat} {P : Program} {w : World} {ops : Array Oper} {rest : List Oper} {o : Oper} {a : Act} {Q : Exit → Act → World → Prop}
    (hg : o.guard = none) (s x : Operand) (t tx : TypeId) (hop : o.op = Op.call { callee := Callee.builtin Builtin.append, args := #[s, x], argTypes := #[t, tx] })
    (v xv : Value) (hs : a.eval s = v) (hx : a.eval x = xv) (v' : Value) (w' : World)
    (hr : (Builtin.append_ #[t, tx] o.type #[v, xv]).run P w = .ok v' w') (hK : wpListIn F n P ops Q rest (a.put o.dst v') w') :
    wpListIn F n P ops Q (o :: rest) a w := by
  refine wpListIn_plain hg fun K hK' => ?_
  unfold Oper.wpIn
  refine ⟨?_, ?_⟩
  · simp [Oper.about, hop, resolve, Target.leads, Sem.run_pure]
  · rw [Oper.semAt_plain F _ _ (by rw [hop]; intro c hc'; cases hc')]
    simp [execOp, hop, resolve, invoke, builtin, hs, hx, hr, Result.andThen]
    exact hK' _ _ hK
theorem keepsOthers_of_row {W W' : World} {base : Nat} {e : TypeId} {size : Nat} {v : Value} {n : Nat} {xs : List Value} (hrow : W.ownsRow base e size v n xs) (hg : W.grownBy W' v.ownBlock) : KeepsOthers W W' := by
  refine KeepsOthers.of_grownBy hg fun j o ej hj => ?_
  rcases hrow.2 with ⟨rfl, _⟩ | ⟨g, cap, cur, rfl, _, hgb, _⟩
  · simp [Value.ownBlock] at ej
  · obtain rfl : g = j := by simpa [Value.ownBlock] using ej
    rw [hgb] at hj; cases hj; rfl
theorem cell_ne {W : World} {a b : Nat} (h : a ≠ b) (u : Value) : (W.setCell ⟨b, 0, none⟩ u).cell? ⟨a, 0, none⟩ = W.cell? ⟨a, 0, none⟩ :=
  World.cell?_of_block (Below.heap_setCell W ⟨b, 0, none⟩ u a h)
/-- parts as cells. -/
def dcC (l : List (List Int × List Int)) : List Value := l.flatMap fun p => [.string (strOfNums p.1), .string (strOfNums p.2)]
theorem dcC_snoc (l : List (List Int × List Int)) (p : List Int × List Int) : dcC (l ++ [p]) = dcC l ++ [.string (strOfNums p.1), .string (strOfNums p.2)] := by simp [dcC]
theorem dcC_len (l : List (List Int × List Int)) : (dcC l).length = l.length * 2 := by
  induction l with
  | nil => rfl
  | cons p l ih => simp only [dcC, List.flatMap_cons, List.length_append, List.length_cons, List.length_nil] at *; omega
theorem infoTwo : (Try.prog.info? 38).map (fun i => (i.zero, i.size, i.bytes)) = some (some (.agg #[.string ⟨#[]⟩, .string ⟨#[]⟩]), 2, 32) := by kernel_rfl
/-- 'append(s, p)' of one part. -/
theorem app_two (wr : World) (base : Nat) (v : Value) (n : Nat) (xs : List Value) (hown : wr.ownsRow base 38 2 v n xs) (x y : ByteArray) (hn : n < 1099511627776) (hbase : base ≤ wr.heap.size) :
    ∃ v' w', (Builtin.append_ #[32, 32] 32 #[v, .slice (some ⟨wr.heap.size, 0, none⟩) 1 1]).run Try.prog (wr.alloc (.cells #[.string x, .string y] 38)) = .ok v' w' ∧
      w'.ownsRow base 38 2 v' (n + 1) (xs ++ [.string x, .string y]) ∧ Below base wr w' ∧ (∀ (k : Nat) (o : Obj), wr.heap[k]? = some o → (∀ c m, o ≠ .cells c 38 m) → w'.heap[k]? = some o) ∧
      (∀ (k : Nat) (p q : ByteArray), wr.heap[k]? = some (Obj.cells #[.string p, .string q] 38 (0, 0)) → ∃ p' q' : ByteArray, w'.heap[k]? = some (Obj.cells #[.string p', .string q'] 38 (0, 0))) := by
  obtain ⟨i0, hi, hz0, hz1, hz2⟩ := info_parts infoTwo
  obtain ⟨w1, hw1⟩ : ∃ a, wr.alloc (.cells #[.string x, .string y] 38) = a := ⟨_, rfl⟩
  have h1 : w1.ownsRow base 38 2 v n xs := by rw [← hw1]; exact hown.alloc _
  have hs1 : w1.heap.size = wr.heap.size + 1 := by rw [← hw1, World.size_alloc]
  have hold : ∀ k, k < wr.heap.size → w1.heap[k]? = wr.heap[k]? := fun k hk => by rw [← hw1]; exact Below.heap_alloc _ _ k hk
  have hnews : ∀ j u, [Value.string x, .string y][j]? = some u → w1.cell? ((⟨wr.heap.size, 0, none⟩ : Addr).add j) = some u := fun j u hj => by
    rw [← hw1]
    match j, hj with
    | 0, hj => simp at hj; subst hj; simp [Addr.add, World.cell?_alloc_mark]
    | 1, hj => simp at hj; subst hj; simp [Addr.add, World.cell?_alloc_mark]
  have hone : ∀ u ∈ [Value.string x, .string y], u.oneCell' = true := fun u hu => by simp at hu; rcases hu with rfl | rfl <;> rfl
  obtain ⟨v', w', hr, h2, h3, _⟩ := run_append_own (P := Try.prog) w1 base 32 32 38 i0 (.agg #[.string ⟨#[]⟩, .string ⟨#[]⟩]) 2 32 Try.underlying32 hi hz0 hz1 hz2 rfl (by decide) v n _ h1 ⟨wr.heap.size, 0, none⟩ 1 1 [.string x, .string y] rfl
    hnews hone (by unfold maxLen; omega) (by omega) (by omega)
  have hbl : Below base wr w' := by
    have hb1 : Below base wr w1 := by rw [← hw1]; exact (Below.refl base wr).alloc hbase _
    exact hb1.trans (ownBelow h1 h3 (Nat.le_refl _) (by omega))
  have hfar : ∀ (k : Nat) (o : Obj), wr.heap[k]? = some o → some k ≠ v.ownBlock → w'.heap[k]? = some o := fun k o hk hne =>
    (h3.block k (by have := (Array.getElem?_eq_some_iff.1 hk).1; omega) hne).trans ((hold k (Array.getElem?_eq_some_iff.1 hk).1).trans hk)
  refine ⟨v', w', by rw [hw1]; exact hr, h2, hbl, fun k o hk ho => hfar k o hk (fun e => ?_), fun k p q hk => ?_⟩
  · rcases hown.2 with ⟨rfl, _⟩ | ⟨g, cap, cur, rfl, _, hg, _⟩
    · simp [Value.ownBlock] at e
    · simp only [Value.ownBlock, Option.some_inj] at e
      subst e
      rw [hg] at hk
      cases hk
      exact ho _ _ rfl
  · by_cases he : some k = v.ownBlock
    · rcases hown.2 with ⟨rfl, _⟩ | ⟨g, cap, cur, rfl, hbg, hg, hnc, hcm, hcs, htake⟩
      · simp [Value.ownBlock] at he
      · simp only [Value.ownBlock, Option.some_inj] at he
        subst he
        rw [hg] at hk
        cases hk
        have hc1 : cap = 1 := by simp at hcs; omega
        subst hc1
        have hg1 : w1.heap[k]? = some (Obj.cells #[.string p, .string q] 38 (0, 0)) := (hold k (Array.getElem?_eq_some_iff.1 hg).1).trans hg
        by_cases hroom : n + 1 ≤ 1
        · have hn0 : n = 0 := by omega
          subst hn0
          have hr2 := run_append_room (P := Try.prog) w1 32 32 38 i0 Try.underlying32 hi k 0 1 #[.string p, .string q] hg1 ⟨wr.heap.size, 0, none⟩ 1 1 [.string x, .string y] (by rw [hz1]; rfl) hnews hone (by omega) (by simp)
          rw [hr] at hr2
          injection hr2 with e1 e2
          subst e2
          exact ⟨x, y, by rw [setRow_heap w1 k _ _ _ _ hg1]; simp⟩
        · have hx : ∀ j u, xs[j]? = some u → w1.cell? ((⟨k, 0, none⟩ : Addr).add j) = some u := h1.cells (g := k) rfl
          have hr2 := run_append_grow (P := Try.prog) w1 32 32 38 i0 (.agg #[.string ⟨#[]⟩, .string ⟨#[]⟩]) Try.underlying32 hi hz0 ⟨k, 0, none⟩ n 1 xs (by rw [hz1]; exact h1.1) hx ⟨wr.heap.size, 0, none⟩ 1 1 [.string x, .string y] (by rw [hz1]; rfl) hnews (by omega) (by omega)
            (by rw [hz2]; exact growslice_fits (by omega) (by omega))
          rw [hr] at hr2
          injection hr2 with e1 e2
          subst e2
          exact ⟨p, q, (Below.heap_alloc w1.drew _ k (Array.getElem?_eq_some_iff.1 hg1).1).trans hg1⟩
    · exact ⟨p, q, hfar k _ hk he⟩
theorem declare_parts_in (F : Fence) (n : Nat) (h27 : F.fn 21) (hro : F.round = none) (s : ByteArray) (w : World) :
    CallsIn F n Try.prog 21 #[.string s] w fun e w' => e = .returned (.func (.func 28) #[] #[.pointer (some ⟨w.heap.size, 0, none⟩)]) ∧ w' = w.alloc (.cells #[.string s] 9) := by
  refine callsIn_of_wp Try.func21 rfl h27 ?_ hro
  simp only [Try.ntmps21, List.size_toArray, List.length_cons, List.length_nil, Nat.reduceAdd, Nat.reduceSub, Array.replicate_succ, Array.replicate_zero, List.push_toArray, List.append_toArray, List.nil_append, List.cons_append]
  gi_wp2
  go_ret
  exact ⟨rfl, rfl⟩
/-- the variable that collects. -/
def colI (w : World) : List (List Int × List Int) → World → Prop := fun pre W =>
  (∃ v, Boxed W w.heap.size 32 v ∧ W.ownsRow (w.heap.size + 1) 38 2 v pre.length (dcC pre)) ∧ Below w.heap.size w W
theorem colI_own (w : World) (B : Nat) (hB : w.heap.size + 1 ≤ B) : OwnM MuC B (colI w) := by
  rintro pre X Y ⟨⟨v, hv, hr⟩, hb⟩ ht
  have hbl := ht.below (C := w.heap.size) (by omega) hb.size
  refine ⟨⟨v, ?_, ?_⟩, hb.trans hbl⟩
  · obtain ⟨row, hg, hrow⟩ := ht
    refine hv.kept hg (fun e => ?_)
    have := (hrow _ e.symm).1
    omega
  · obtain ⟨row, hg, hrow⟩ := ht
    refine hr.kept hg ?_
    cases hvb : v.ownBlock with
    | none => exact .inl rfl
    | some g =>
      refine .inr fun e => ?_
      obtain ⟨_, o, ho, hc⟩ := hrow g e.symm
      rcases hr.2 with ⟨rfl, _⟩ | ⟨g', cap, cur, rfl, _, hg', _⟩
      · simp [Value.ownBlock] at hvb
      · simp only [Value.ownBlock, Option.some_inj] at hvb
        subst hvb
        rw [hg'] at ho
        cases ho
        rcases hc with hc | ⟨u, m, hc⟩
        · cases hc
        · injection hc with _ h2 _
          exact absurd h2 (by decide)
/-- a part's own block. -/
def PtAt (B : Nat) (x : List Int × List Int) (P : Nat) (W : World) : Prop := W.heap[P]? = some (Obj.cells #[.string (strOfNums x.1), .string (strOfNums x.2)] 38 (0, 0)) ∧ B ≤ P
theorem ptAt_own {α : Type} (B C : Nat) (x : List Int × List Int) (F : Nat → Prop) : OwnFrom C (fun (_ : α) W => ∃ P, PtAt B x P W ∧ F P) := by
  rintro _ X Y row ⟨P, ⟨hP, hle⟩, hF⟩ hg hr
  refine ⟨P, ⟨(hg.block P (Array.getElem?_eq_some_iff.1 hP).1 (fun e => ?_)).trans hP, hle⟩, hF⟩
  obtain ⟨_, o, ho, hc⟩ := hr P e.symm
  rw [hP] at ho
  cases ho
  cases hc
set_option maxRecDepth 100000 in
set_option maxHeartbeats 4000000 in
theorem append_seq (n : Nat) (hn : 3 ≤ n) (Bs : Nat) (s : ByteArray) (hs : s.size ≤ 1000000) (w : World) (hBs : Bs < w.heap.size) (hc : w.cell? ⟨Bs, 0, none⟩ = some (.string s)) (m : Int) (hm : MaxAt w m) :
    CallsIn Fence.wide n Try.prog 33 #[.slice none 0 0, .func (.func 28) #[] #[.pointer (some ⟨Bs, 0, none⟩)]] w fun e w' => ∃ v, e = .returned v ∧
      w'.ownsRow (w.heap.size + 1) 38 2 v (partsD (nums s)).length (dcC (partsD (nums s))) ∧ Below w.heap.size w w' := by
  refine callsIn_of_wp_marks Try.func33 rfl trivial ?_ rfl
  simp only [Try.ntmps33, List.size_toArray, List.length_cons, List.length_nil, Nat.reduceAdd, Nat.reduceSub, Array.replicate_succ, Array.replicate_zero, List.push_toArray, List.append_toArray, List.nil_append, List.cons_append]
  gi_wp2
  have bA := Boxed.new w 32 (.slice none 0 0)
  have hb1 := (Below.refl _ w).alloc (Nat.le_refl _) (.cells #[.slice none 0 0] 32)
  obtain ⟨w1, hw1⟩ : ∃ x, w.alloc (.cells #[.slice none 0 0] 32) = x := ⟨_, rfl⟩
  have s1 : w1.heap.size = w.heap.size + 1 := by rw [← hw1, World.size_alloc]
  rw [hw1] at bA hb1
  rw [hw1]
  have hc1 := (hb1.cell (p := ⟨Bs, 0, none⟩) hBs).trans hc
  refine wpIn_rangeFunc_ownM MuC rfl (by omega) (gf := 28) (lb := #[.pointer (some ⟨Bs, 0, none⟩)]) rfl trivial (enters_of Try.func28 (by kernel_rfl) rfl)
    (parts1_stops _ (by omega) Bs s hs w1 (by omega) hc1 m (hm.below hb1)) KeepsDc.trans (fun W l o o' _ h1 h2 _ => KeepsDc.putObj W l o o' h1 h2) (Below.refl _ _) (fun _ => rfl)
    (colI w) (fun _ _ _ => False) (colI_own w _ (by omega)) (fun _ _ _ _ h _ => h.elim)
    ⟨⟨_, bA, World.ownsRow_nil _ _ _ _⟩, hb1⟩
    (fun x a' W => ∃ P, PtAt w1.heap.size x P W ∧ a' = { tmps := #[.slice none 0 0, .func (.func 28) #[] #[.pointer (some ⟨Bs, 0, none⟩)], .pointer (some ⟨w.heap.size, 0, none⟩), undef, .slice none 0 0, .pointer (some ⟨P, 0, none⟩), .func (.func 28) #[] #[.pointer (some ⟨Bs, 0, none⟩)], pcD x, undef, undef, undef, undef, undef], defers := [] })
    (fun x a' => ptAt_own _ _ x _) ?assign ?body ?done ?stop
  case assign =>
    rintro l pre x W K hI hK
    dsimp only [pcD]
    gi_wp2
    obtain ⟨⟨v, hv, hr⟩, hB⟩ := hI
    have hlt := hv.lt
    exact hK _ _ ((KeepsOthers.alloc _ _).from _) (KeepsDc.below ((Below.refl _ W).alloc (Nat.le_refl _) _)) ((colI_own w _ (Nat.le_refl _)).from.alloc _ ⟨⟨v, hv, hr⟩, hB⟩) ⟨_, ⟨heap_alloc_new W _, by omega⟩, rfl⟩
  case body =>
    rintro l pre x a' W hl ⟨⟨v, hv, hr⟩, hB⟩ ⟨P, ⟨hP, hPl⟩, rfl⟩ hlt
    have p0 : W.cell? ⟨P, 0, none⟩ = some (.string (strOfNums x.1)) := by rw [cell_of_row W _ 0 _ _ _ hP]; rfl
    have p1 : W.cell? ⟨P, 1, none⟩ = some (.string (strOfNums x.2)) := by rw [cell_of_row W _ 1 _ _ _ hP]; rfl
    have c0 := hv.cell
    have hsz := hv.lt
    obtain ⟨v', w', hrun, hro, hbo, hoth, htwo⟩ := app_two W (w.heap.size + 1) v pre.length _ hr (strOfNums x.1) (strOfNums x.2) (by omega) (by omega)
    have hv' : Boxed w' w.heap.size 32 v := hoth _ _ hv (fun c m e => by injection e with _ h2 _; exact absurd h2 (by decide))
    have c1 := hv'.cell
    have f1 := hv'.frozen
    obtain ⟨a, ln, cp, rfl⟩ := own_slice hro
    have HRUN := Lib.hid hrun
    clear hrun
    gi_wp2_with (gi_at_builtin; refine wpListIn_app rfl _ _ _ _ rfl _ _ rfl rfl _ _ HRUN.out ?_)
    have hmlt := hm.lt
    have hne : ∀ (k : Nat) (c : Array Value) (t : TypeId) (m : Nat × Nat), W.heap[k]? = some (Obj.cells c t m) → t ≠ 32 → k ≠ w.heap.size := fun k c t m h1 h2 e => by
      subst e
      rw [show W.heap[w.heap.size]? = _ from hv] at h1
      injection h1 with h1
      injection h1 with _ h3 _
      exact h2 h3.symm
    have hset : ∀ k o, k ≠ w.heap.size → w'.heap[k]? = some o → (w'.setCell ⟨w.heap.size, 0, none⟩ (.slice a ln cp)).heap[k]? = some o := fun k o h1 h2 => (heap_setCell_other w' ⟨w.heap.size, 0, none⟩ k _ h1).trans h2
    refine ⟨KeepsOthers.from (KeepsOthers.trans ⟨hbo.size, fun k o hk ho => hoth k o hk (fun c m e => by subst e; cases ho)⟩ (KeepsOthers.setCell _ _ _)) _, ⟨fun i hi => ?_, fun k u hk => ?_, fun k p q hk => ?_⟩, ⟨_, hv'.set _, ?_⟩, ?_⟩
    · have h1 : MaxAt w' i := (hbo.cell (p := ⟨0, 0, none⟩) (by show 0 < _; omega)).trans hi
      exact (World.cell?_of_block (heap_setCell_other w' ⟨w.heap.size, 0, none⟩ 0 _ (by show 0 ≠ w.heap.size; omega))).trans h1
    · exact hset _ _ (hne _ _ _ _ hk (by decide)) (hoth _ _ hk (fun c m e => by injection e with _ h2 _; exact absurd h2 (by decide)))
    · obtain ⟨p', q', h'⟩ := htwo _ _ _ hk
      exact ⟨p', q', hset _ _ (hne _ _ _ _ hk (by decide)) h'⟩
    · rw [dcC_snoc, List.length_append]
      refine hro.kept (grownBy_setCell' w' w.heap.size _) ?_
      cases hob : (Value.slice a ln cp).ownBlock with
      | none => exact .inl rfl
      | some g =>
        refine .inr fun e => ?_
        have := (hro.lt g hob).1
        injection e with e
        omega
    · exact hB.trans ((hbo.mono (Nat.le_succ _)).setCell (p := ⟨w.heap.size, 0, none⟩) (Nat.le_refl _) _)
  case done =>
    rintro D ys W hD rfl ⟨⟨v, hv, hr⟩, hB⟩ hK
    have c0 := hv.cell
    obtain ⟨a, ln, cp, rfl⟩ := own_slice hr
    gi_wp2
    refine ⟨by simp, .inl ⟨_, _, rfl, run_takeDeferred hK, ?_⟩⟩
    refine ⟨.slice a ln cp, by simp [results, Try.f33, go_sem], _, rfl, ?_, hB.trans (belowK_b (w := w) (Nat.le_refl _) W D _ _ (by omega) hK rfl rfl)⟩
    refine hr.kept (grownBy_putObj' W D _) ?_
    cases hob : (Value.slice a ln cp).ownBlock with
    | none => exact .inl rfl
    | some g =>
      refine .inr fun e => ?_
      injection e with e
      subst e
      rcases hr.2 with ⟨h, _⟩ | ⟨g', cap, cur, h, _, hg', _⟩
      · rw [h] at hob; simp [Value.ownBlock] at hob
      · rw [h] at hob
        simp only [Value.ownBlock, Option.some_inj] at hob
        subst hob
        rw [hg'] at hK
        cases hK
  case stop => exact fun _ _ _ _ _ _ h _ => h.elim
theorem own_mono {w : World} {base B : Nat} {e : TypeId} {size : Nat} {v : Value} {n : Nat} {xs : List Value} (h : w.ownsRow base e size v n xs) (hB : B ≤ base) : w.ownsRow B e size v n xs := by
  refine ⟨h.1, ?_⟩
  rcases h.2 with h | ⟨g, cap, cur, h1, h2, h3⟩
  · exact .inl h
  · exact .inr ⟨g, cap, cur, h1, by omega, h3⟩
theorem slices_Collect (Bs : Nat) (s : ByteArray) (hs : s.size ≤ 1000000) (w : World) (hBs : Bs < w.heap.size) (hc : w.cell? ⟨Bs, 0, none⟩ = some (.string s)) (m : Int) (hm : MaxAt w m) :
    Calls Try.prog 22 #[.func (.func 28) #[] #[.pointer (some ⟨Bs, 0, none⟩)]] w fun e w' => ∃ v, e = .returned v ∧
      w'.ownsRow w.heap.size 38 2 v (partsD (nums s)).length (dcC (partsD (nums s))) ∧ Below w.heap.size w w' := by
  have HA := Lib.hid ((callsIn_wide (n := 5)).1 (append_seq 5 (by decide) Bs s hs w hBs hc m hm))
  go_enter Try.func22, Try.ntmps22
  go_wp2_with fail
  refine HA.out.mono ?_
  rintro e w1 ⟨v, rfl, hr, hb⟩
  go_wp2
  go_ret
  exact ⟨_, rfl, own_mono hr (Nat.le_succ _), hb⟩
theorem declare_Parts (s : ByteArray) (hs : s.size ≤ 1000000) (w : World) (m : Int) (hm : MaxAt w m) :
    Calls Try.prog 17 #[.string s] w fun e w' => ∃ v, e = .returned v ∧
      w'.ownsRow w.heap.size 38 2 v (partsD (nums s)).length (dcC (partsD (nums s))) ∧ Below w.heap.size w w' := by
  have HP := Lib.hid ((callsIn_wide (n := 5)).1 (declare_parts_in Fence.wide 5 trivial rfl s w))
  have hb1 := (Below.refl _ w).alloc (Nat.le_refl _) (.cells #[.string s] 9)
  have bx := Boxed.new w 9 (.string s)
  obtain ⟨w1, hw1⟩ : ∃ x, w.alloc (.cells #[.string s] 9) = x := ⟨_, rfl⟩
  have s1 : w1.heap.size = w.heap.size + 1 := by rw [← hw1, World.size_alloc]
  rw [hw1] at hb1 bx HP
  have HC := Lib.hid (slices_Collect w.heap.size s hs w1 (by omega) bx.cell m (hm.below hb1))
  go_enter Try.func17, Try.ntmps17
  go_wp2_with fail
  refine HP.out.mono ?_
  rintro e w' ⟨rfl, rfl⟩
  go_wp2_with fail
  refine HC.out.mono ?_
  rintro e w2 ⟨v, rfl, hr, hb⟩
  go_wp2
  go_ret
  exact ⟨_, rfl, own_mono hr (by omega), hb1.trans (hb.mono (by omega))⟩
def encB (p : List Int × List Int) : Bool := (strOfNums p.1).toList == [101, 110, 99, 111, 100, 105, 110, 103]
/-- the first part that is named so. -/
def scanE : List (List Int × List Int) → Option (List Int × List Int)
  | [] => none
  | p :: r => if encB p then some p else scanE r
theorem scanE_none : ∀ l, (∀ p ∈ l, encB p = false) → scanE l = none
  | [], _ => rfl
  | p :: r, h => by rw [scanE, if_neg (by rw [h p (List.mem_cons_self ..)]; decide)]; exact scanE_none r fun q hq => h q (List.mem_cons_of_mem _ hq)
theorem scanE_some : ∀ (l g : List (List Int × List Int)) (x : List Int × List Int), (g ++ [x]) <+: l → (∀ p ∈ g, encB p = false) → encB x = true → scanE l = some x
  | [], g, x, h, _, _ => by have := h.length_le; simp at this
  | p :: r, [], x, h, _, hx => by
    obtain ⟨t, ht⟩ := h
    have e : x = p := by injection ht
    subst e
    rw [scanE, if_pos hx]
  | p :: r, y :: g, x, h, hg, hx => by
    rw [List.cons_append, List.cons_prefix_cons] at h
    have h1 := hg y (List.mem_cons_self ..)
    rw [h.1] at h1
    rw [scanE, if_neg (by rw [h1]; decide), scanE_some r g x h.2 (fun q hq => hg q (List.mem_cons_of_mem _ hq)) hx]
/-- what Scan tells. -/
def scnV (l : List (List Int × List Int)) : ByteArray × Bool := match scanE l with
  | some p => (strOfNums p.2, true)
  | none => (⟨#[]⟩, false)
def scnI (w : World) : List (List Int × List Int) → World → Prop := fun pre W =>
  ((Boxed W w.heap.size 9 (.string ⟨#[]⟩) ∧ Boxed W (w.heap.size + 1) 4 (.bool false)) ∧ Below w.heap.size w W) ∧ ∀ p ∈ pre, encB p = false
def scnX (w : World) : Code → List (List Int × List Int) → World → Prop := fun c pre W =>
  ((∃ (g : List (List Int × List Int)) (x : List Int × List Int), (pre = g ++ [x] ∧ (∀ p ∈ g, encB p = false) ∧ encB x = true) ∧
    Boxed W w.heap.size 9 (.string (strOfNums x.2)) ∧ Boxed W (w.heap.size + 1) 4 (.bool true)) ∧ Below w.heap.size w W) ∧ c = .ret
theorem turns_boxed {Mu : Obj → Prop} {B k : Nat} {X Y : World} {t : TypeId} {v : Value} (ht : Turns Mu B X Y) (h : Boxed X k t v) (hk : k < B) : Boxed Y k t v := by
  obtain ⟨row, hg, hrow⟩ := ht
  refine h.kept hg (fun e => ?_)
  have := (hrow _ e.symm).1
  omega
theorem scnI_own (w : World) (B : Nat) (hB : w.heap.size + 2 ≤ B) : OwnM MuC B (scnI w) := by
  rintro pre X Y ⟨⟨⟨h1, h2⟩, hb⟩, h3⟩ ht
  exact ⟨⟨⟨turns_boxed ht h1 (by omega), turns_boxed ht h2 (by omega)⟩, hb.trans (ht.below (by omega) hb.size)⟩, h3⟩
theorem scnX_own (w : World) (B : Nat) (hB : w.heap.size + 2 ≤ B) (c : Code) : OwnM MuC B (scnX w c) := by
  rintro pre X Y ⟨⟨⟨g, x, h0, h1, h2⟩, hb⟩, h3⟩ ht
  exact ⟨⟨⟨g, x, h0, turns_boxed ht h1 (by omega), turns_boxed ht h2 (by omega)⟩, hb.trans (ht.below (by omega) hb.size)⟩, h3⟩
set_option maxRecDepth 100000 in
set_option maxHeartbeats 4000000 in
theorem declare_Scan (s : ByteArray) (hs : s.size ≤ 1000000) (w : World) (m : Int) (hm : MaxAt w m) :
    Calls Try.prog 14 #[.string s] w fun e w' => e = .returned (.tuple #[.string (scnV (partsD (nums s))).1, .bool (scnV (partsD (nums s))).2]) ∧ Below w.heap.size w w' := by
  refine (callsIn_wide (n := 5)).1 ?_
  refine callsIn_of_wp_marks Try.func14 rfl trivial ?_ rfl
  simp only [Try.ntmps14, List.size_toArray, List.length_cons, List.length_nil, Nat.reduceAdd, Nat.reduceSub, Array.replicate_succ, Array.replicate_zero, List.push_toArray, List.append_toArray, List.nil_append, List.cons_append]
  gi_wp2_with (refine ⟨trivial, ?_⟩; gi_at_call 21; refine (declare_parts_in Fence.wide _ trivial rfl _ _).mono ?_; rintro e w' ⟨rfl, rfl⟩)
  have bA := Boxed.new w 9 (.string ⟨#[]⟩)
  have e1 := (Below.refl _ w).alloc (Nat.le_refl _) (.cells #[.string ⟨#[]⟩] 9)
  obtain ⟨w1, hw1⟩ : ∃ x, w.alloc (.cells #[.string ⟨#[]⟩] 9) = x := ⟨_, rfl⟩
  have s1 : w1.heap.size = w.heap.size + 1 := by rw [← hw1, World.size_alloc]
  rw [hw1] at bA e1
  rw [hw1]
  have bB := Boxed.new w1 4 (.bool false)
  have bA := bA.alloc (.cells #[.bool false] 4)
  have e2 := e1.alloc (by omega) (.cells #[.bool false] 4)
  obtain ⟨w2, hw2⟩ : ∃ x, w1.alloc (.cells #[.bool false] 4) = x := ⟨_, rfl⟩
  have s2 : w2.heap.size = w.heap.size + 1 + 1 := by rw [← hw2, World.size_alloc, s1]
  rw [hw2] at bA bB e2
  rw [hw2]
  have bE := Boxed.new w2 9 (.string s)
  have bA := bA.alloc (.cells #[.string s] 9)
  have bB := bB.alloc (.cells #[.string s] 9)
  have e3 := e2.alloc (by omega) (.cells #[.string s] 9)
  obtain ⟨w3, hw3⟩ : ∃ x, w2.alloc (.cells #[.string s] 9) = x := ⟨_, rfl⟩
  have s3 : w3.heap.size = w.heap.size + 1 + 1 + 1 := by rw [← hw3, World.size_alloc, s2]
  rw [hw3] at bA bB bE e3
  rw [hw3]
  rw [s1] at bB
  rw [s2] at bE
  clear hw1 hw2 hw3 e1 e2 s1 s2
  refine wpIn_rangeFunc_ownM MuC rfl (by omega) (gf := 28) (lb := #[.pointer (some ⟨w.heap.size + 1 + 1, 0, none⟩)]) rfl trivial (enters_of Try.func28 (by kernel_rfl) rfl)
    (parts1_stops _ (by omega) (w.heap.size + 1 + 1) s hs w3 (by omega) bE.cell m (hm.below e3)) KeepsDc.trans (fun W l o o' _ h1 h2 _ => KeepsDc.putObj W l o o' h1 h2) (Below.refl _ _) (fun _ => rfl)
    (scnI w) (scnX w) (scnI_own w _ (by omega)) (scnX_own w _ (by omega))
    ⟨⟨⟨bA, bB⟩, e3⟩, fun x hx => by cases hx⟩
    (fun x a' W => ∃ P, PtAt (w.heap.size + 2) x P W ∧ a' = { tmps := #[.string s, undef, .pointer (some ⟨w.heap.size, 0, none⟩), .pointer (some ⟨w.heap.size + 1, 0, none⟩), .pointer (some ⟨P, 0, none⟩), .string s, .func (.func 28) #[] #[.pointer (some ⟨w.heap.size + 1 + 1, 0, none⟩)], pcD x, undef, undef, undef, undef, undef], defers := [] })
    (fun x a' => ptAt_own _ _ x _) ?assign ?body ?done ?stop
  case assign =>
    rintro l pre x W K hI hK
    dsimp only [pcD]
    gi_wp2
    obtain ⟨⟨⟨h1, h2⟩, hb⟩, h3⟩ := hI
    have hlt := h2.lt
    refine hK _ _ ((KeepsOthers.alloc _ _).from _) (KeepsDc.below ((Below.refl _ W).alloc (Nat.le_refl _) _)) ((scnI_own w _ (Nat.le_refl _)).from.alloc _ ⟨⟨⟨h1, h2⟩, hb⟩, h3⟩) ⟨_, ⟨heap_alloc_new W _, by omega⟩, rfl⟩
  case body =>
    rintro l pre x a' W hl ⟨⟨⟨hr1, hr2⟩, hB⟩, hall⟩ ⟨P, ⟨hP, hPl⟩, rfl⟩ hlt
    have p0 : W.cell? ⟨P, 0, none⟩ = some (.string (strOfNums x.1)) := by rw [cell_of_row W _ 0 _ _ _ hP]; rfl
    have p1 : W.cell? ⟨P, 1, none⟩ = some (.string (strOfNums x.2)) := by rw [cell_of_row W _ 1 _ _ _ hP]; rfl
    have c1 := hr1.cell
    have c2 := hr2.cell
    have f1 := hr1.frozen
    have f2 := hr2.frozen
    obtain ⟨T, hT⟩ : ∃ T, strOfNums x.1 = T := ⟨_, rfl⟩
    cases he : encB x with
    | true =>
      have hq : (T.toList == [101, 110, 99, 111, 100, 105, 110, 103]) = true := by rw [← hT]; exact he
      have HE := Lib.hid he
      rw [hT] at p0
      clear he hT
      gi_wp2_with fail
      refine ⟨((KeepsOthers.setCell _ _ _).trans (KeepsOthers.setCell _ _ _)).from _, ⟨⟨pre, x, ⟨rfl, hall, HE.out⟩, ?_, ?_⟩, ?_⟩, rfl⟩
      · exact (hr1.set _).other (by omega) _
      · exact (hr2.other (by omega) _).set _
      · exact (hB.setCell (p := ⟨w.heap.size, 0, none⟩) (Nat.le_refl _) _).setCell (p := ⟨w.heap.size + 1, 0, none⟩) (by simp) _
    | false =>
      have hq : (T.toList == [101, 110, 99, 111, 100, 105, 110, 103]) = false := by rw [← hT]; exact he
      have HE := Lib.hid he
      rw [hT] at p0
      clear he hT
      gi_wp2_with fail
      refine ⟨(KeepsOthers.refl _).from _, KeepsDc.refl _, ⟨⟨hr1, hr2⟩, hB⟩, fun p hp => ?_⟩
      rw [List.mem_append, List.mem_singleton] at hp
      rcases hp with hp | rfl
      · exact hall p hp
      · exact HE.out
  case done =>
    rintro D ys W hD rfl ⟨⟨⟨hr1, hr2⟩, hB⟩, hall⟩ hK
    have c1 := hr1.cell
    have c2 := hr2.cell
    have f1 := hr1.frozen
    have f2 := hr2.frozen
    have HV := Lib.hid (show scnV (partsD (nums s)) = (⟨#[]⟩, false) by unfold scnV; rw [scanE_none _ hall])
    gi_wp2
    have b1 := (hr1.set (.string ⟨#[]⟩)).other (B' := w.heap.size + 1) (by omega) (.bool false)
    have b2 := (hr2.other (B' := w.heap.size) (by omega) (.string ⟨#[]⟩)).set (.bool false)
    have hKd := ((KeepsOthers.setCell W ⟨w.heap.size, 0, none⟩ (.string ⟨#[]⟩)).trans (KeepsOthers.setCell _ ⟨w.heap.size + 1, 0, none⟩ (.bool false))).same D _ hK rfl
    have hBf := (hB.setCell (p := ⟨w.heap.size, 0, none⟩) (Nat.le_refl _) (.string ⟨#[]⟩)).setCell (p := ⟨w.heap.size + 1, 0, none⟩) (by simp) (.bool false)
    refine ⟨by simp, .inl ⟨_, _, rfl, run_takeDeferred hKd, ?_⟩⟩
    have k1 := cell_kept b1.cell (grownBy_putObj' _ D (.deferred none)) (fun r e => by cases e; exact ⟨_, hKd, rfl⟩)
    have k2 := cell_kept b2.cell (grownBy_putObj' _ D (.deferred none)) (fun r e => by cases e; exact ⟨_, hKd, rfl⟩)
    refine ⟨.tuple #[.string ⟨#[]⟩, .bool false], ?_, by rw [HV.out], hBf.trans (belowK_b (w := w) (Nat.le_refl _) _ D _ _ (by omega) hKd rfl rfl)⟩
    simp [results, Try.f14, go_sem, k1, k2]
  case stop =>
    rintro D c pre W hD ht ⟨⟨⟨g, x, ⟨rfl, hg, hx⟩, h1, h2⟩, hB⟩, rfl⟩ hK
    have HV := Lib.hid (show scnV (partsD (nums s)) = (strOfNums x.2, true) by unfold scnV; rw [scanE_some _ g x ht hg hx])
    gi_wp2
    refine ⟨by simp, .inl ⟨_, _, rfl, run_takeDeferred hK, ?_⟩⟩
    have k1 := cell_kept h1.cell (grownBy_putObj' _ D (.deferred none)) (fun r e => by cases e; exact ⟨_, hK, rfl⟩)
    have k2 := cell_kept h2.cell (grownBy_putObj' _ D (.deferred none)) (fun r e => by cases e; exact ⟨_, hK, rfl⟩)
    refine ⟨.tuple #[.string (strOfNums x.2), .bool true], ?_, by rw [HV.out], hB.trans (belowK_b (w := w) (Nat.le_refl _) W D _ _ (by omega) hK rfl rfl)⟩
    simp [results, Try.f14, go_sem, k1, k2]
end Go.Proofs.Ytaheooedcjjckaa
