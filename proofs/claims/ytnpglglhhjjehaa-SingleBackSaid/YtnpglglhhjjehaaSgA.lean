/-
  The walks of single: odds, codecs, plain, cyrillic.
-/
import Derived.RangeFuncBox
import Derived.Test.YtnpglglhhjjehaaIm
import Derived.Test.YtnpglglhhjjehaaSl
import Derived.Test.YtnpglglhhjjehaaSgP
namespace Go.Proofs.Ytnpglglhhjjehaa
open Go.RowKit
def iv (L : List (Int × Int)) : List (Int × Value) := L.map fun p => (p.1, .int .i64 p.2)
theorem take_snocL {α : Type} (l : List α) (k : Nat) (h : k < l.length) : l.take (k + 1) = l.take k ++ [l[k]] := by
  rw [List.take_succ_eq_append_getElem h]
theorem iv_get (L : List (Int × Int)) (k : Int) : aGet (iv L) k = (iget L k).map (Value.int .i64) := by
  induction L with
  | nil => rfl
  | cons p r ih =>
    show aGet ((p.1, Value.int .i64 p.2) :: iv r) k = _
    rw [aGet, iget]
    split
    · rfl
    · exact ih
theorem iv_put (L : List (Int × Int)) (k v : Int) : aPut (iv L) k (.int .i64 v) = iv (iput L k v) := by
  induction L with
  | nil => rfl
  | cons p r ih =>
    show aPut ((p.1, Value.int .i64 p.2) :: iv r) k _ = _
    rw [aPut, iput]
    split
    · rfl
    · rw [ih]; rfl
/-- a store into a map whose run is known ('m[k] = v', or an entry of a literal). -/
theorem wpList_mapUpdate_run {P : Program} {w : World} {ops : Array Oper} {rest : List Oper} {o : Oper} {a : Act} {Q : Exit → Act → World → Prop} (hgd : o.guard = none) (m x v : Operand) (t : TypeId)
    (ho : o.op = Op.mapUpdate t m x v ∨ o.op = Op.insert t m x v) (mv xv vv : Value) (hm : a.eval m = mv) (hx : a.eval x = xv) (hv : a.eval v = vv) (w' : World)
    (hr : (Instr.mapUpdate t mv xv vv).run P w = .ok () w') (h : wpList P ops Q rest (a.put o.dst undef) w') : wpList P ops Q (o :: rest) a w :=
  wpList_plain hgd fun K hK => by
    unfold Oper.wp
    rcases ho with ho | ho <;> simp [execOp, ho, hm, hx, hv, hr, Result.andThen] <;> exact hK _ _ h
/-- a store into the call's own map: some world, in which the map has one pair more. -/
theorem wpList_put_I {w : World} {ops : Array Oper} {rest : List Oper} {o : Oper} {a : Act} {Q : Exit → Act → World → Prop} (hgd : o.guard = none) (m x v : Operand) (t : TypeId)
    (ho : o.op = Op.mapUpdate t m x v ∨ o.op = Op.insert t m x v) {kt et : TypeId} (ht : Try.prog.underlying t = some (.map kt et)) {kk : IntKind} (hk : Try.prog.underlying kt = some (.int kk)) (b : Nat) (L : List (Int × Value))
    (him : IMap w kk b L) (k : Int) (vv : Value) (hm : a.eval m = .map (some b)) (hx : a.eval x = .int kk k) (hv : a.eval v = vv)
    (hK : ∀ w', IMap w' kk b (aPut L k vv) → w.grownBy w' (some b) → wpList Try.prog ops Q rest (a.put o.dst undef) w') : wpList Try.prog ops Q (o :: rest) a w := by
  obtain ⟨w', hr, h1, h2⟩ := him.update ht hk k vv
  exact wpList_mapUpdate_run hgd m x v t ho _ _ _ hm hx hv w' hr (hK w' h1 h2)
theorem grown_refl (W : World) (row : Option Nat) : W.grownBy W row := ⟨rfl, rfl, rfl, Nat.le_refl _, fun _ _ _ => rfl⟩
theorem grown_trans {a b c : World} {row : Option Nat} (h : a.grownBy b row) (g : b.grownBy c row) : a.grownBy c row :=
  ⟨g.os.trans h.os, g.tape.trans h.tape, g.output.trans h.output, Nat.le_trans h.size g.size, fun k hk hr => (g.block k (Nat.lt_of_lt_of_le hk h.size) hr).trans (h.block k hk hr)⟩
theorem zeroInt (w : World) : (zeroValue 3).run Try.prog w = .ok (.int .i64 0) w := by kernel_rfl
set_option maxHeartbeats 1000000 in
theorem single_odds (k0 : Int) (v : Value) (xs : List Int) (B : Nat) (w : World) (hr : Reads B w v (xs.map (Value.int .i64))) (hB : B ≤ w.heap.size) (h0 : 0 ≤ k0) (h1 : k0 ≤ 1000) (hl : xs.length ≤ 1000) :
    Calls Try.prog 28 #[.int .i64 k0, v] w fun e w' => ∃ b, e = .returned (.agg #[.map (some b)]) ∧ IMap w' .i64 b (iv (oddGo k0 [] xs)) ∧ w.heap.size ≤ b ∧ Below w.heap.size w w' := by
  obtain ⟨a, cap, rfl, _, hc⟩ := hr.open
  have hmm := @run_makeMap Try.prog
  go_enter Try.func28, Try.ntmps28
  go_wp2_with fail
  have bR := Boxed.new w 55 (.map none)
  have bC := Boxed.new ((w.alloc (.cells #[.map none] 55)).alloc (.map #[] 0)) 55 (.map (some (w.heap.size + 1)))
  have im := IMap.made (w.alloc (.cells #[.map none] 55)) .i64
  rw [World.size_alloc] at im
  rw [World.size_alloc, World.size_alloc] at bC
  have hB0 : Below w.heap.size w (((w.alloc (.cells #[.map none] 55)).alloc (.map #[] 0)).alloc (.cells #[.map (some (w.heap.size + 1))] 55)) := (((Below.refl _ w).alloc (Nat.le_refl _) _).alloc (by simp) _).alloc (by simp; omega) _
  go_loopw [12] (fun i wr => ∃ k : Nat, i = .int .i64 k ∧ k ≤ xs.length ∧ IMap wr .i64 (w.heap.size + 1) (iv (oddGo k0 [] (xs.take k))) ∧ Boxed wr w.heap.size 55 (.map none) ∧ Boxed wr (w.heap.size + 1 + 1) 55 (.map (some (w.heap.size + 1))) ∧ Below w.heap.size w wr) (fun i _ => xs.length - (intOf i).toNat)
  case atStart => exact ⟨0, rfl, by omega, im.alloc _, (bR.alloc _).alloc _, bC, hB0⟩
  case round =>
    obtain ⟨k, rfl, hk, him, hbR, hbC, hb⟩ := hrel
    by_cases hlt : k < xs.length
    · obtain ⟨b, off, rfl, hbB, hcx⟩ := hc k hlt
      have hcx1 := (hb.cell (p := ⟨b, off + k, none⟩) (by exact Nat.lt_of_lt_of_le hbB hB)).trans hcx
      obtain ⟨x, hx⟩ : ∃ x, xs[k] = x := ⟨_, rfl⟩
      rw [hx] at hcx1
      have hs : oddGo k0 [] (xs.take (k + 1)) = iput (oddGo k0 [] (xs.take k)) (k0 + k) x := by
        rw [take_snocL xs k hlt, hx, oddGo_snoc, List.length_take, Nat.min_eq_left hk]
      obtain ⟨w1, hr1, him1, hg1⟩ := him.update (t := 53) Try.underlying53 Try.underlying3 (k0 + k) (.int .i64 x)
      rw [iv_put, ← hs] at him1
      have HR := Lib.hid hr1
      have hcc := hbC.cell
      clear hr1 hs hx hc hcx hr
      go_wp2_with (at_mapUpdate; refine wpList_mapUpdate_run rfl _ _ _ _ (.inl rfl) _ _ _ rfl rfl rfl _ HR.out ?_)
      exact ⟨⟨k + 1, by go_num, by omega, him1, hbR.kept hg1 (by simp), hbC.kept hg1 (by simp), hb.grown hg1 hb.size (fun j e => by cases e; omega)⟩, by simp [intOf]; omega⟩
    · obtain rfl : k = xs.length := by omega
      rw [List.take_length] at him
      have hcc := hbC.cell
      have hcr := hbR.cell
      have hfr := hbR.frozen
      have hset := hbR.set (.map (some (w.heap.size + 1)))
      have HS := Lib.hid hset
      have him2 := him.kept (grownBy_setCell' wr w.heap.size (.map (some (w.heap.size + 1)))) (by simp)
      have HI := Lib.hid him2
      clear hset him2 hc hr
      go_wp2
      have hc5 := HS.out.cell
      refine bodyPost_ret (v := .agg #[.map (some (w.heap.size + 1))]) (by simp [results, Try.f28, go_sem, hc5]) rfl ⟨w.heap.size + 1, rfl, HI.out, by omega, hb.setCell (p := ⟨w.heap.size, 0, none⟩) (Nat.le_refl _) _⟩
def fv (n b : Nat) : Value := .func (.func n) #[.agg #[.map (some b)]] #[]
def nineA : Value := .agg #[.int .i64 164, .int .i64 8364, .int .i64 166, .int .i64 352, .int .i64 168, .int .i64 353, .int .i64 180, .int .i64 381, .int .i64 184, .int .i64 382, .int .i64 188, .int .i64 338, .int .i64 189, .int .i64 339, .int .i64 190, .int .i64 376]
theorem nine_at (k : Nat) (hk : k < 8) : ∃ x y : Int, (∀ w, (Instr.index 58 nineA (.int .i64 k)).run Try.prog w = .ok (.agg #[.int .i64 x, .int .i64 y]) w) ∧ iput (nineL.take k) x y = nineL.take (k + 1) := by
  rcases (show k = 0 ∨ k = 1 ∨ k = 2 ∨ k = 3 ∨ k = 4 ∨ k = 5 ∨ k = 6 ∨ k = 7 by omega) with rfl | rfl | rfl | rfl | rfl | rfl | rfl | rfl
  · exact ⟨164, 8364, fun _ => by kernel_rfl, rfl⟩
  · exact ⟨166, 352, fun _ => by kernel_rfl, rfl⟩
  · exact ⟨168, 353, fun _ => by kernel_rfl, rfl⟩
  · exact ⟨180, 381, fun _ => by kernel_rfl, rfl⟩
  · exact ⟨184, 382, fun _ => by kernel_rfl, rfl⟩
  · exact ⟨188, 338, fun _ => by kernel_rfl, rfl⟩
  · exact ⟨189, 339, fun _ => by kernel_rfl, rfl⟩
  · exact ⟨190, 376, fun _ => by kernel_rfl, rfl⟩
/-- what the loop over the nine keeps. -/
structure NineAt (w : World) (n1 n2 b1 b2 : Nat) (k : Nat) (wr : World) : Prop where
  im : IMap wr .i64 (n2 + 1 + 1) (iv (nineL.take k))
  i1 : IMap wr .i64 b1 (iv winL)
  i2 : IMap wr .i64 b2 (iv fiveL)
  c1 : Boxed wr n1 55 (.map (some b1))
  c2 : Boxed wr n2 55 (.map (some b2))
  c4 : Boxed wr (n2 + 1 + 1 + 1) 55 (.map (some (n2 + 1 + 1)))
  bl : Below w.heap.size w wr
set_option maxHeartbeats 2000000 in
theorem single_codecs (w : World) :
    Calls Try.prog 19 #[] w fun e w' => ∃ b b1 b2 b3, e = .returned (.map (some b)) ∧ IMap w' .i8 b [(3, fv 29 b1), (4, fv 30 b2), (5, fv 29 b3)] ∧
      IMap w' .i64 b1 (iv winL) ∧ IMap w' .i64 b2 (iv fiveL) ∧ IMap w' .i64 b3 (iv nineL) ∧ Below w.heap.size w w' := by
  have hmm := @run_makeMap Try.prog
  go_enter Try.func19, Try.ntmps19
  go_wp2_with fail
  refine (single_odds 128 _ winX _ _ (reads_alloc w _ 3 32 32 _ rfl rfl (by unfold maxLen; decide)) (by simp) (by decide) (by decide) (by decide)).mono ?_
  rintro e w1 ⟨b1, rfl, him1, _, hb1⟩
  rw [World.size_alloc] at hb1
  have hB1 : Below w.heap.size w w1 := ((Below.refl _ w).alloc (Nat.le_refl _) _).trans (hb1.mono (by omega))
  have hl1 := him1.lt
  have bC1 := Boxed.new w1 55 (.map (some b1))
  have im2 := IMap.made (w1.alloc (.cells #[.map (some b1)] 55)) .i64
  rw [World.size_alloc] at im2
  have gg := grown_refl ((w1.alloc (.cells #[.map (some b1)] 55)).alloc (.map #[] 0)) (some (w1.heap.size + 1))
  go_wp2_with (refine wpList_put_I rfl _ _ _ _ (.inr rfl) Try.underlying53 Try.underlying3 _ _ im2 _ _ rfl rfl rfl ?_; intro w2 im2 g2; have gg := grown_trans gg g2; clear g2)
  have im5 : IMap w2 .i64 (w1.heap.size + 1) (iv fiveL) := im2
  have him1' : IMap w2 .i64 b1 (iv winL) := ((him1.alloc _).alloc _).kept gg (by simp; omega)
  have bC1' : Boxed w2 w1.heap.size 55 (.map (some b1)) := (bC1.alloc _).kept gg (by simp)
  have hB2 : Below w.heap.size w w2 := ((hB1.alloc hB1.size _).alloc (by have := hB1.size; simp; omega) _).grown gg (by have := hB1.size; simp; omega) (fun k e => by cases e; have := hB1.size; omega)
  have hl5 := im5.lt
  have hl1' := hB1.size
  have hsz2 : w1.heap.size + 2 ≤ w2.heap.size := by have := gg.size; simp at this; omega
  clear im2 him1 bC1 gg hB1 hb1
  have bC2 := Boxed.new w2 55 (.map (some (w1.heap.size + 1)))
  have him3 : NineAt w w1.heap.size w2.heap.size b1 (w1.heap.size + 1) 0 ((((w2.alloc (.cells #[.map (some (w1.heap.size + 1))] 55)).alloc (.cells #[.int .i64 164, .int .i64 8364, .int .i64 166, .int .i64 352, .int .i64 168, .int .i64 353, .int .i64 180, .int .i64 381, .int .i64 184, .int .i64 382, .int .i64 188, .int .i64 338, .int .i64 189, .int .i64 339, .int .i64 190, .int .i64 376] 58)).alloc (.map #[] 0)).alloc (.cells #[.map (some (w2.heap.size + 1 + 1))] 55)) := by
    have m := IMap.made ((w2.alloc (.cells #[.map (some (w1.heap.size + 1))] 55)).alloc (.cells #[.int .i64 164, .int .i64 8364, .int .i64 166, .int .i64 352, .int .i64 168, .int .i64 353, .int .i64 180, .int .i64 381, .int .i64 184, .int .i64 382, .int .i64 188, .int .i64 338, .int .i64 189, .int .i64 339, .int .i64 190, .int .i64 376] 58)) .i64
    rw [World.size_alloc, World.size_alloc] at m
    have b4 := Boxed.new (((w2.alloc (.cells #[.map (some (w1.heap.size + 1))] 55)).alloc (.cells #[.int .i64 164, .int .i64 8364, .int .i64 166, .int .i64 352, .int .i64 168, .int .i64 353, .int .i64 180, .int .i64 381, .int .i64 184, .int .i64 382, .int .i64 188, .int .i64 338, .int .i64 189, .int .i64 339, .int .i64 190, .int .i64 376] 58)).alloc (.map #[] 0)) 55 (.map (some (w2.heap.size + 1 + 1)))
    rw [World.size_alloc, World.size_alloc, World.size_alloc] at b4
    have hs := hB2.size
    exact ⟨m.alloc _, (((him1'.alloc _).alloc _).alloc _).alloc _, (((im5.alloc _).alloc _).alloc _).alloc _, (((bC1'.alloc _).alloc _).alloc _).alloc _, ((bC2.alloc _).alloc _).alloc _, b4,
      (((hB2.alloc hs _).alloc (by simp; omega) _).alloc (by simp; omega) _).alloc (by simp; omega) _⟩
  go_loopw [24] (fun i wr => ∃ k : Nat, i = .int .i64 k ∧ k ≤ 8 ∧ NineAt w w1.heap.size w2.heap.size b1 (w1.heap.size + 1) k wr) (fun i _ => 8 - (intOf i).toNat)
  case atStart => exact ⟨0, rfl, by omega, him3⟩
  case round =>
    obtain ⟨k, rfl, hk, hN⟩ := hrel
    by_cases hlt : k < 8
    · obtain ⟨x, y, hix, hput⟩ := nine_at k hlt
      unfold nineA at hix
      have hc4 := (hN.c4.alloc (.cells #[.int .i64 x, .int .i64 y] 57)).cell
      have hbs := hN.bl.size
      have him := hN.im.alloc (.cells #[.int .i64 x, .int .i64 y] 57)
      have hN1 := Lib.hid hN
      have HP := Lib.hid hput
      have HX := Lib.hid hix
      obtain ⟨w3, hr3, im3, g3⟩ := him.update (t := 53) Try.underlying53 Try.underlying3 x (.int .i64 y)
      rw [iv_put, hput] at im3
      have HR := Lib.hid hr3
      clear hN hput hr3 him
      go_wp2_with (at_mapUpdate; refine wpList_mapUpdate_run rfl _ _ _ _ (.inl rfl) _ _ _ rfl rfl rfl _ HR.out ?_)
      have hN := hN1.out
      exact ⟨⟨k + 1, by go_num, by omega, ⟨im3, (hN.i1.alloc _).kept g3 (by simp; omega), (hN.i2.alloc _).kept g3 (by simp; omega), (hN.c1.alloc _).kept g3 (by simp; omega), (hN.c2.alloc _).kept g3 (by simp; omega), (hN.c4.alloc _).kept g3 (by simp), (hN.bl.alloc hbs _).grown g3 (by simp; omega) (fun j e => by cases e; omega)⟩⟩, by simp [intOf]; omega⟩
    · obtain rfl : k = 8 := by omega
      have hbs := hN.bl.size
      have hc1 := (hN.c1.alloc (.map #[] 0)).cell
      have hc2 := hN.c2.alloc (.map #[] 0)
      have hc4 := hN.c4.alloc (.map #[] 0)
      have im8 := IMap.made wr .i8
      have hl43 := im8.lt
      have gg := grown_refl (wr.alloc (.map #[] 0)) (some wr.heap.size)
      have hn1 := hN.i1.lt
      have hn2 := hN.i2.lt
      have hn3 := hN.im.lt
      have hn4 := hN.c4.lt
      have hn5 := hN.c2.lt
      have hn6 := hN.c1.lt
      have hN1 := Lib.hid hN
      clear hN him3 hB2 bC2 im5 him1' bC1'
      go_wp2_with (refine wpList_put_I rfl _ _ _ _ (.inr rfl) Try.underlying43 Try.underlying22 _ _ im8 _ _ rfl rfl rfl ?_; intro w3 im8 g3; have gg := grown_trans gg g3; have hc2 := hc2.kept g3 (by simp; omega); have hc4 := hc4.kept g3 (by simp; omega); have hc2c := hc2.cell; have hc4c := hc4.cell; clear g3)
      go_ret
      have hN := hN1.out
      exact ⟨wr.heap.size, b1, w1.heap.size + 1, w2.heap.size + 1 + 1, rfl, im8, (hN.i1.alloc _).kept gg (by simp; omega), (hN.i2.alloc _).kept gg (by simp; omega), (hN.im.alloc _).kept gg (by simp; omega), (hN.bl.alloc hbs _).grown gg (by simp; omega) (fun j e => by cases e; omega)⟩
end Go.Proofs.Ytnpglglhhjjehaa
