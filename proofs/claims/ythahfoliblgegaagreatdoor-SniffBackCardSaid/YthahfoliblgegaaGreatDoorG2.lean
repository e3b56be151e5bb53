/-
  Parts Sl U8D U8E of this seat's texts, in one file: contracts of functions that the law reaches, and the plain laws behind them. No condition.
-/
import Derived.Test.YthahfoliblgegaaGreatDoorG1
import Derived.Lib.AppendStr
import Derived.RangeFuncNested
import Derived.RangeFuncBound
import Derived.RangeFuncCalls
import Derived.RangeFuncLeaves
import Derived.RangeFuncBox
import Derived.Shelf.Abstract
import Derived.Shelf.RegionOpen
import Derived.WalkKit
import Derived.OwnWalkIn
import Derived.TacticsInMore
import Derived.LoopNIn
import Derived.LoopIn
/- 
  Slices: a slice value that reads as a list; append to a slice of the call's own as an equation on its run.
 -/
namespace Go.Proofs.YthahfoliblgegaaGreatDoor
open Go.RowKit Go.Lib
theorem addr0 (g i : Nat) : (⟨g, 0, none⟩ : Addr).add i = ⟨g, 0 + i, none⟩ := by unfold Addr.add; split <;> simp_all
/-- an append whose run is known. -/
theorem wpList_append_run {P : Program} {w : World} {ops : Array Oper} {rest : List Oper} {o : Oper} {a : Act} {Q : Exit → Act → World → Prop} (hgd : o.guard = none) (s x : Operand) (t tx : TypeId)
    (ho : o.op = .call { callee := .builtin .append, args := #[s, x], argTypes := #[t, tx] }) (v xv : Value) (hs : a.eval s = v) (hx : a.eval x = xv) (v' : Value) (w' : World)
    (hr : (Builtin.append_ #[t, tx] o.type #[v, xv]).run P w = .ok v' w') (h : wpList P ops Q rest (a.put o.dst v') w') : wpList P ops Q (o :: rest) a w :=
  wpList_plain hgd fun K hK => by
    unfold Oper.wp execOp
    simp only [ho, resolve, invoke, builtin, Sem.run_bind, Sem.run_pure, Result.andThen_ok, List.map_toArray, List.map_cons, List.map_nil, hs, hx, hr]
    exact hK _ _ h
/-- the slice value reads as the list xs, in blocks below B. -/
def Reads (B : Nat) (w : World) (v : Value) (xs : List Value) : Prop :=
  xs.length ≤ maxLen ∧ ∃ a cap, v = .slice a xs.length cap ∧ (xs = [] ∨ ∃ b off, a = some ⟨b, off, none⟩ ∧ b < B ∧ ∀ i (h : i < xs.length), w.cell? ⟨b, off + i, none⟩ = some xs[i])
theorem Reads.below {B : Nat} {w w' : World} {v : Value} {xs : List Value} (h : Reads B w v xs) {C : Nat} (hb : Below C w w') (hBC : B ≤ C) : Reads B w' v xs := by
  obtain ⟨hl, a, cap, rfl, h⟩ := h
  refine ⟨hl, a, cap, rfl, ?_⟩
  rcases h with h | ⟨b, off, rfl, hB, hc⟩
  · exact .inl h
  · exact .inr ⟨b, off, rfl, hB, fun i hi => (hb.cell (p := ⟨b, off + i, none⟩) (by exact Nat.lt_of_lt_of_le hB hBC)).trans (hc i hi)⟩
theorem Reads.mono {B C : Nat} {w : World} {v : Value} {xs : List Value} (h : Reads B w v xs) (hBC : B ≤ C) : Reads C w v xs := by
  obtain ⟨hl, a, cap, rfl, h⟩ := h
  refine ⟨hl, a, cap, rfl, ?_⟩
  rcases h with h | ⟨b, off, rfl, hB, hc⟩
  · exact .inl h
  · exact .inr ⟨b, off, rfl, Nat.lt_of_lt_of_le hB hBC, hc⟩
theorem Reads.open {B : Nat} {w : World} {v : Value} {k : IntKind} {xs : List Int} (h : Reads B w v (xs.map (Value.int k))) :
    ∃ a cap, v = .slice a xs.length cap ∧ xs.length ≤ maxLen ∧ (∀ i (_ : i < xs.length), ∃ b off, a = some ⟨b, off, none⟩ ∧ b < B ∧ w.cell? ⟨b, off + i, none⟩ = some (.int k xs[i])) := by
  obtain ⟨hl, a, cap, rfl, h⟩ := h
  rw [List.length_map] at hl
  refine ⟨a, cap, by rw [List.length_map], hl, fun i hi => ?_⟩
  rcases h with h | ⟨b, off, rfl, hB, hc⟩
  · rw [List.map_eq_nil_iff] at h; subst h; simp at hi
  · exact ⟨b, off, rfl, hB, by rw [hc i (by rw [List.length_map]; exact hi), List.getElem_map]⟩
/-- a slice over a new block reads as its cells. -/
theorem reads_alloc (W : World) (C : Array Value) (t : TypeId) (n c : Nat) (xs : List Value) (hC : C.toList = xs) (hn : xs.length = n) (hm : n ≤ maxLen) : Reads (W.heap.size + 1) (W.alloc (.cells C t)) (.slice (some ⟨W.heap.size, 0, none⟩) n c) xs := by
  subst hn
  refine ⟨hm, _, c, rfl, .inr ⟨W.heap.size, 0, rfl, by omega, fun i hi => ?_⟩⟩
  rw [World.cell?_alloc_mark]
  have : C[0 + i]? = xs[i]? := by rw [← hC]; simp
  rw [this, List.getElem?_eq_getElem hi]
/-- a slice that owns its row reads as it. -/
theorem Reads.of_own {w : World} {base : Nat} {e : TypeId} {v : Value} {n : Nat} {xs : List Value} (h : w.ownsRow base e 1 v n xs) (hn : n ≤ maxLen) : Reads w.heap.size w v xs := by
  have hxl : xs.length = n := by simpa using h.1
  have hb := h.lt
  have hc := fun g => h.cells (g := g)
  rcases h.2 with ⟨rfl, rfl⟩ | ⟨g, cap, cur, rfl, _⟩
  · exact ⟨by omega, none, 0, by rw [hxl], .inl (List.eq_nil_of_length_eq_zero hxl)⟩
  · refine ⟨by omega, some ⟨g, 0, none⟩, cap, by rw [hxl], .inr ⟨g, 0, rfl, (hb g rfl).2, fun i hi => ?_⟩⟩
    have := hc g rfl i xs[i] (by rw [List.getElem?_eq_getElem hi])
    rwa [addr0] at this
theorem ownBelow {w w' : World} {base : Nat} {e : TypeId} {size : Nat} {v : Value} {n : Nat} {xs : List Value} (hown : w.ownsRow base e size v n xs) (hg : w.grownBy w' v.ownBlock) {B : Nat} (hB : B ≤ base) (hs : B ≤ w.heap.size) : Below B w w' :=
  (Below.refl B w).grown hg hs fun k hk => Nat.le_trans hB (hown.lt k hk).1
theorem own_below {w w' : World} {base : Nat} {e : TypeId} {size : Nat} {v : Value} {n : Nat} {xs : List Value} (h : w.ownsRow base e size v n xs) {B : Nat} (hb : Below B w w') (hB : w.heap.size ≤ B) : w'.ownsRow base e size v n xs := by
  refine ⟨h.1, ?_⟩
  have hlt := h.lt
  rcases h.2 with h | ⟨g, cap, cur, rfl, h1, h2, h3⟩
  · exact .inl h
  · exact .inr ⟨g, cap, cur, rfl, h1, (hb.block g (Nat.lt_of_lt_of_le (hlt g rfl).2 hB)).trans h2, h3⟩
/-- a slice of integers that came in reads as its elements. -/
theorem reads_row {k : IntKind} {w : World} {a : Option Addr} {len cap : Nat} {zs : List Int}
    (h : (a = none ∧ len = 0 ∧ cap = 0 ∧ zs = []) ∨ ∃ x, a = some x ∧ len ≤ cap ∧ cap ≤ maxLen ∧ zs.length = cap ∧ (∀ i, i < zs.length → w.cell? (x.add i) = some (.int k (zs.getD i 0))) ∧ ∀ n ∈ zs, (Lit.int k n).wf = true) :
    Reads w.heap.size w (.slice a len cap) ((zs.take len).map (Value.int k)) := by
  rcases h with ⟨rfl, rfl, rfl, rfl⟩ | ⟨x, rfl, h1, h2, h3, h4, _⟩
  · exact ⟨by simp, none, 0, rfl, .inl rfl⟩
  · have hl : ((zs.take len).map (Value.int k)).length = len := by rw [List.length_map, List.length_take]; omega
    refine ⟨by rw [hl]; omega, some x, cap, by rw [hl], ?_⟩
    by_cases h0 : len = 0
    · left; rw [h0]; rfl
    · right
      obtain ⟨b, off, spot⟩ := x
      have hc := h4 0 (by omega)
      have hspot : spot = none := by simpa [Addr.add] using World.cell?_spot hc
      subst hspot
      have hadd : ∀ i, (⟨b, off, none⟩ : Addr).add i = ⟨b, off + i, none⟩ := fun i => by unfold Addr.add; split <;> simp_all
      have hb : b < w.heap.size := by
        rw [hadd] at hc
        simp only [World.cell?] at hc
        by_cases hlt : b < w.heap.size
        · exact hlt
        · rw [Array.getElem?_eq_none (by omega)] at hc; simp at hc
      refine ⟨b, off, rfl, hb, fun i hi => ?_⟩
      rw [hl] at hi
      have := h4 i (by omega)
      rw [hadd] at this
      rw [this, List.getElem_map, List.getElem_take]
      simp [List.getD, List.getElem?_eq_getElem (show i < zs.length by omega)]
theorem own_slice {w : World} {base : Nat} {e : TypeId} {size : Nat} {v : Value} {n : Nat} {xs : List Value} (h : w.ownsRow base e size v n xs) : ∃ a l c, v = .slice a l c := by
  rcases h.2 with ⟨rfl, _⟩ | ⟨g, cap, cur, rfl, _⟩
  · exact ⟨_, _, _, rfl⟩
  · exact ⟨_, _, _, rfl⟩
theorem infoInt : (Tryz.prog.info? 3).map (fun i => (i.zero, i.size, i.bytes)) = some (some (.int .i64 0), 1, 8) := by kernel_rfl
/-- 'append(out, x)', out of the call's own: some value, some world; what they are good for. -/
theorem app_int (wr : World) (base : Nat) (v : Value) (n : Nat) (xs : List Int) (hown : wr.ownsRow base 3 1 v n (xs.map (Value.int .i64))) (x : Int) (hn : n < 1099511627776) (hbase : base ≤ wr.heap.size) :
    ∃ v' w', (Builtin.append_ #[60, 60] 60 #[v, .slice (some ⟨wr.heap.size, 0, none⟩) 1 1]).run Tryz.prog (wr.alloc (.cells #[.int .i64 x] 3)) = .ok v' w' ∧
      w'.ownsRow base 3 1 v' (n + 1) ((xs ++ [x]).map (Value.int .i64)) ∧ Below base wr w' ∧ v' ≠ .slice none 0 0 := by
  obtain ⟨i0, hi, hz0, hz1, hz2⟩ := info_parts infoInt
  obtain ⟨v', w', h1, h2, h3, h4⟩ := run_append_own (P := Tryz.prog) (wr.alloc (.cells #[.int .i64 x] 3)) base 60 60 3 i0 (.int .i64 0) 1 8 Tryz.underlying60 hi hz0 hz1 hz2 rfl (by decide) v n _ (hown.alloc _) ⟨wr.heap.size, 0, none⟩ 1 1 [.int .i64 x] rfl
    (fun j u hj => by match j, hj with | 0, hj => simp at hj; subst hj; simp [Addr.add, World.cell?_alloc_mark]) (fun u hu => by simp at hu; subst hu; rfl) (by unfold maxLen; omega) (by omega) (by simp; omega)
  refine ⟨v', w', h1, by simpa using h2, ((Below.refl base wr).alloc hbase _).trans (ownBelow (hown.alloc _) h3 (Nat.le_refl _) (by simp; omega)), fun h => ?_⟩
  have := (h4.1 h).2
  omega
theorem app_int_g (wr : World) (base : Nat) (v : Value) (n : Nat) (xs : List Int) (hown : wr.ownsRow base 3 1 v n (xs.map (Value.int .i64))) (x : Int) (hn : n < 1099511627776) (hbase : base ≤ wr.heap.size) :
    ∃ v' w', (Builtin.append_ #[60, 60] 60 #[v, .slice (some ⟨wr.heap.size, 0, none⟩) 1 1]).run Tryz.prog (wr.alloc (.cells #[.int .i64 x] 3)) = .ok v' w' ∧
      w'.ownsRow base 3 1 v' (n + 1) ((xs ++ [x]).map (Value.int .i64)) ∧ (wr.alloc (.cells #[.int .i64 x] 3)).grownBy w' v.ownBlock := by
  obtain ⟨i0, hi, hz0, hz1, hz2⟩ := info_parts infoInt
  obtain ⟨v', w', h1, h2, h3, h4⟩ := run_append_own (P := Tryz.prog) (wr.alloc (.cells #[.int .i64 x] 3)) base 60 60 3 i0 (.int .i64 0) 1 8 Tryz.underlying60 hi hz0 hz1 hz2 rfl (by decide) v n _ (hown.alloc _) ⟨wr.heap.size, 0, none⟩ 1 1 [.int .i64 x] rfl
    (fun j u hj => by match j, hj with | 0, hj => simp at hj; subst hj; simp [Addr.add, World.cell?_alloc_mark]) (fun u hu => by simp at hu; subst hu; rfl) (by unfold maxLen; omega) (by omega) (by simp; omega)
  exact ⟨v', w', h1, by simpa using h2, h3⟩
theorem infoU8 : (Tryz.prog.info? 5).map (fun i => (i.zero, i.size, i.bytes)) = some (some (.int .u8 0), 1, 1) := by kernel_rfl
/-- 'append(out, b)' of one byte. -/
theorem app_u8 (wr : World) (base : Nat) (v : Value) (n : Nat) (xs : List Int) (hown : wr.ownsRow base 5 1 v n (xs.map (Value.int .u8))) (x : Int) (hn : n < 1099511627776) (hbase : base ≤ wr.heap.size) :
    ∃ v' w', (Builtin.append_ #[104, 104] 104 #[v, .slice (some ⟨wr.heap.size, 0, none⟩) 1 1]).run Tryz.prog (wr.alloc (.cells #[.int .u8 x] 5)) = .ok v' w' ∧
      w'.ownsRow base 5 1 v' (n + 1) ((xs ++ [x]).map (Value.int .u8)) ∧ Below base wr w' ∧ v' ≠ .slice none 0 0 := by
  obtain ⟨i0, hi, hz0, hz1, hz2⟩ := info_parts infoU8
  obtain ⟨v', w', h1, h2, h3, h4⟩ := run_append_own (P := Tryz.prog) (wr.alloc (.cells #[.int .u8 x] 5)) base 104 104 5 i0 (.int .u8 0) 1 1 Tryz.underlying104 hi hz0 hz1 hz2 rfl (by decide) v n _ (hown.alloc _) ⟨wr.heap.size, 0, none⟩ 1 1 [.int .u8 x] rfl
    (fun j u hj => by match j, hj with | 0, hj => simp at hj; subst hj; simp [Addr.add, World.cell?_alloc_mark]) (fun u hu => by simp at hu; subst hu; rfl) (by unfold maxLen; omega) (by omega) (by simp; omega)
  refine ⟨v', w', h1, by simpa using h2, ((Below.refl base wr).alloc hbase _).trans (ownBelow (hown.alloc _) h3 (Nat.le_refl _) (by simp; omega)), fun h => ?_⟩
  have := (h4.1 h).2
  omega
/-- 'append(out, b0, b1, b2)' of three bytes. -/
theorem app_u8_3 (wr : World) (base : Nat) (v : Value) (n : Nat) (xs : List Int) (hown : wr.ownsRow base 5 1 v n (xs.map (Value.int .u8))) (x y z : Int) (hn : n < 1099511627776) (hbase : base ≤ wr.heap.size) :
    ∃ v' w', (Builtin.append_ #[104, 104] 104 #[v, .slice (some ⟨wr.heap.size, 0, none⟩) 3 3]).run Tryz.prog (wr.alloc (.cells #[.int .u8 x, .int .u8 y, .int .u8 z] 5)) = .ok v' w' ∧
      w'.ownsRow base 5 1 v' (n + 3) ((xs ++ [x, y, z]).map (Value.int .u8)) ∧ Below base wr w' ∧ v' ≠ .slice none 0 0 := by
  obtain ⟨i0, hi, hz0, hz1, hz2⟩ := info_parts infoU8
  obtain ⟨v', w', h1, h2, h3, h4⟩ := run_append_own (P := Tryz.prog) (wr.alloc (.cells #[.int .u8 x, .int .u8 y, .int .u8 z] 5)) base 104 104 5 i0 (.int .u8 0) 1 1 Tryz.underlying104 hi hz0 hz1 hz2 rfl (by decide) v n _ (hown.alloc _) ⟨wr.heap.size, 0, none⟩ 3 3 [.int .u8 x, .int .u8 y, .int .u8 z] rfl
    (fun j u hj => by
      match j, hj with
      | 0, hj => simp at hj; subst hj; simp [Addr.add, World.cell?_alloc_mark]
      | 1, hj => simp at hj; subst hj; simp [Addr.add, World.cell?_alloc_mark]
      | 2, hj => simp at hj; subst hj; simp [Addr.add, World.cell?_alloc_mark]) (fun u hu => by simp at hu; rcases hu with rfl | rfl | rfl <;> rfl) (by unfold maxLen; omega) (by omega) (by simp; omega)
  refine ⟨v', w', h1, by simpa using h2, ((Below.refl base wr).alloc hbase _).trans (ownBelow (hown.alloc _) h3 (Nat.le_refl _) (by simp; omega)), fun h => ?_⟩
  have := (h4.1 h).2
  omega
theorem strCells_nums (s : ByteArray) : strCells s = (s.data.toList.map fun c => (c.toNat : Int)).map (Value.int .u8) := by simp [strCells]
/-- 'append(out, s...)', s a string: the row alone has grown. -/
theorem app_str_g (wr : World) (base : Nat) (v : Value) (n : Nat) (xs : List Int) (hown : wr.ownsRow base 5 1 v n (xs.map (Value.int .u8))) (s : ByteArray) (hn : n + s.size < 1099511627776) (hbase : base ≤ wr.heap.size) :
    ∃ v' w', (Builtin.append_ #[104, 9] 104 #[v, .string s]).run Tryz.prog wr = .ok v' w' ∧
      w'.ownsRow base 5 1 v' (n + s.size) ((xs ++ s.data.toList.map fun c => (c.toNat : Int)).map (Value.int .u8)) ∧ wr.grownBy w' v.ownBlock := by
  obtain ⟨i0, hi, hz0, hz1, hz2⟩ := info_parts infoU8
  obtain ⟨v', w', h1, h2, h3, h4⟩ := run_append_own_string (P := Tryz.prog) wr base 104 9 104 5 i0 Tryz.underlying104 Tryz.underlying9 hi hz0 hz1 hz2 v n _ hown s (by unfold maxLen; omega) (by omega) hbase
  exact ⟨v', w', h1, by rw [List.map_append, ← strCells_nums]; exact h2, h3⟩
/-- 'append(out, s...)', s a string. -/
theorem app_str (wr : World) (base : Nat) (v : Value) (n : Nat) (xs : List Int) (hown : wr.ownsRow base 5 1 v n (xs.map (Value.int .u8))) (s : ByteArray) (hn : n + s.size < 1099511627776) (hbase : base ≤ wr.heap.size) :
    ∃ v' w', (Builtin.append_ #[104, 9] 104 #[v, .string s]).run Tryz.prog wr = .ok v' w' ∧
      w'.ownsRow base 5 1 v' (n + s.size) ((xs ++ s.data.toList.map fun c => (c.toNat : Int)).map (Value.int .u8)) ∧ Below base wr w' := by
  obtain ⟨i0, hi, hz0, hz1, hz2⟩ := info_parts infoU8
  obtain ⟨v', w', h1, h2, h3, h4⟩ := run_append_own_string (P := Tryz.prog) wr base 104 9 104 5 i0 Tryz.underlying104 Tryz.underlying9 hi hz0 hz1 hz2 v n _ hown s (by unfold maxLen; omega) (by omega) hbase
  exact ⟨v', w', h1, by rw [List.map_append, ← strCells_nums]; exact h2, ownBelow hown h3 (Nat.le_refl _) hbase⟩
/-- 'string(out)', out of the call's own. -/
theorem conv_own (w : World) (base : Nat) (v : Value) (n : Nat) (xs : List Int) (hown : w.ownsRow base 5 1 v n (xs.map (Value.int .u8))) :
    (convert 104 9 v).run Tryz.prog w = .ok (.string (strOfNums xs)) w := by
  have hxl : xs.length = n := by simpa using hown.1
  rcases hown.2 with ⟨rfl, rfl⟩ | ⟨g, cap, cur, rfl, _⟩
  · obtain rfl : xs = [] := List.eq_nil_of_length_eq_zero hxl
    exact run_convert_bytes_nil w 104 5 Tryz.underlying104 Tryz.underlying5 0 0 9 Tryz.underlying9
  · refine run_convert_bytes_arg w 104 5 Tryz.underlying104 Tryz.underlying5 g 0 n cap xs hxl (fun i hi => ?_) 9 Tryz.underlying9
    have := hown.cells (g := g) rfl i (.int .u8 (xs.getD i 0)) (by simp [List.getElem?_eq_getElem (show i < xs.length by omega), List.getD])
    rwa [addr0] at this
end Go.Proofs.YthahfoliblgegaaGreatDoor
/- 
  The walks of the reference's Next, Scalars, Valid, Text, Loose.
 -/
namespace Go.Proofs.YthahfoliblgegaaGreatDoor
open Go.RowKit
attribute [local go_sem] i64_and63 i64_and31 i64_and15 i64_and7
theorem nextR_in {s : ByteArray} {i : Nat} (hi : i < s.size) (hp : 0 ≤ (piece ((nums s).drop i)).1) : nextR s i = piece ((nums s).drop i) := by
  unfold nextR; rw [if_neg (by omega), Int.toNat_natCast, if_neg (by omega)]
theorem nextR_wrong {s : ByteArray} {i : Nat} (hi : i < s.size) (hp : (piece ((nums s).drop i)).1 < 0) : nextR s i = (-1, 0) := by
  unfold nextR; rw [if_neg (by omega), Int.toNat_natCast, if_pos hp]
theorem pR_no {p : Int × Nat} (h : p.1 < 0) : pR p = 0 := if_pos h
theorem pOk_no {p : Int × Nat} (h : p.1 < 0) : pOk p = false := decide_eq_false (by omega)
set_option maxHeartbeats 400000 in
theorem ref02_Next (s : ByteArray) (k : Int) (w : World) (h1 : s.size ≤ 1099511627776) :
    Calls Tryz.prog 90 #[.string s, .int .i64 k] w fun e w' => e = .returned (.tuple #[.int .i64 (pR (nextR s k)), .int .i64 (nextR s k).2, .bool (pOk (nextR s k))]) ∧ w = w' := by
  by_cases h0 : k < 0 ∨ (s.size : Int) ≤ k
  · have HN := Lib.hid (show nextR s k = (-1, 0) by unfold nextR; rw [if_pos h0])
    go_enter Tryz.func90, Tryz.ntmps90
    go_wp2_with fail
    all_goals
      go_ret3
      exact ⟨by rw [HN.out]; rfl, rfl⟩
  · obtain ⟨i, rfl⟩ := Int.eq_ofNat_of_zero_le (show 0 ≤ k by omega)
    have hi : i < s.size := by omega
    clear h0
    by_cases hp : (piece ((nums s).drop i)).1 < 0
    · have HN := Lib.hid (nextR_wrong hi hp)
      have HR := Lib.hid (pR_no hp)
      have HO := Lib.hid (pOk_no hp)
      go_enter Tryz.func90, Tryz.ntmps90
      go_wp2_with (go_at_call 79; refine (ref02_part s i _ hi h1).mono ?_; rw [HR.out, HO.out]; rintro e w' ⟨rfl, rfl⟩)
      go_ret3
      exact ⟨by rw [HN.out]; rfl, rfl⟩
    · have HN := Lib.hid (nextR_in hi (by omega))
      have HR := Lib.hid (pR_of (p := piece ((nums s).drop i)) (by omega))
      have HO := Lib.hid (pOk_of (p := piece ((nums s).drop i)) (by omega))
      go_enter Tryz.func90, Tryz.ntmps90
      go_wp2_with (go_at_call 79; refine (ref02_part s i _ hi h1).mono ?_; rw [HO.out]; rintro e w' ⟨rfl, rfl⟩)
      go_ret3
      exact ⟨by rw [HN.out, HO.out]; rfl, rfl⟩
theorem ref02_Next_no (s : ByteArray) (k : Nat) (w : World) (h1 : s.size ≤ 1099511627776) (hk : k < s.size) (hp : (piece ((nums s).drop k)).1 < 0) :
    Calls Tryz.prog 90 #[.string s, .int .i64 k] w fun e w' => e = .returned (.tuple #[.int .i64 0, .int .i64 0, .bool false]) ∧ w = w' := by
  have h := ref02_Next s k w h1
  rw [nextR_wrong hk hp] at h
  exact h
theorem ref02_Next_ok (s : ByteArray) (k : Nat) (w : World) (h1 : s.size ≤ 1099511627776) (hk : k < s.size) (p : Int × Nat) (he : piece ((nums s).drop k) = p) (hp : 0 ≤ p.1) :
    Calls Tryz.prog 90 #[.string s, .int .i64 k] w fun e w' => e = .returned (.tuple #[.int .i64 p.1, .int .i64 p.2, .bool true]) ∧ w = w' := by
  have h := ref02_Next s k w h1
  rw [nextR_in hk (by rw [he]; exact hp), he, pR_of hp, pOk_of hp] at h
  exact h
theorem utf8_Next_no (s : ByteArray) (k : Nat) (w : World) (h1 : s.size ≤ 1099511627776) (hk : k < s.size) (hp : (piece ((nums s).drop k)).1 < 0) :
    Calls Tryz.prog 88 #[.string s, .int .i64 k] w fun e w' => e = .returned (.tuple #[.int .i64 0, .int .i64 0, .bool false]) ∧ w = w' := by
  have h := utf8_Next s k w h1
  rw [nextR_wrong hk hp] at h
  exact h
theorem utf8_Next_ok (s : ByteArray) (k : Nat) (w : World) (h1 : s.size ≤ 1099511627776) (hk : k < s.size) (p : Int × Nat) (he : piece ((nums s).drop k) = p) (hp : 0 ≤ p.1) :
    Calls Tryz.prog 88 #[.string s, .int .i64 k] w fun e w' => e = .returned (.tuple #[.int .i64 p.1, .int .i64 p.2, .bool true]) ∧ w = w' := by
  have h := utf8_Next s k w h1
  rw [nextR_in hk (by rw [he]; exact hp), he, pR_of hp, pOk_of hp] at h
  exact h
theorem drop_ne {s : ByteArray} {k : Nat} (h : k < s.size) : (nums s).drop k ≠ [] := by rw [nums_drop s k h]; simp
theorem piece_drop_le {s : ByteArray} {k : Nat} (h : k < s.size) : 1 ≤ (piece ((nums s).drop k)).2 ∧ k + (piece ((nums s).drop k)).2 ≤ s.size := by
  have hd := nums_drop s k h
  have hn := piece_n (s[k].toNat : Int) ((nums s).drop (k + 1))
  rw [← hd] at hn
  have hl := nums_length s
  rw [List.length_drop] at hn
  omega
theorem pieces_drop {s : ByteArray} {k : Nat} (h : k < s.size) : pieces ((nums s).drop k) = piece ((nums s).drop k) :: pieces ((nums s).drop (k + (piece ((nums s).drop k)).2)) := by
  rw [pieces_ne _ (drop_ne h), List.drop_drop]
theorem pieces_drop_end {s : ByteArray} {k : Nat} (h : s.size ≤ k) : pieces ((nums s).drop k) = [] := by rw [nums_drop_end s k h]; rfl
/-- so far the text is right, and its scalars are gathered. -/
def ScalAt (s : ByteArray) (w : World) (v at_ : Value) (wr : World) : Prop :=
  ∃ (k : Nat) (done : List (Int × Nat)), at_ = .int .i64 k ∧ k ≤ s.size ∧ done.length ≤ k ∧ done.all okP = true ∧ pieces (nums s) = done ++ pieces ((nums s).drop k) ∧
    wr.ownsRow w.heap.size 3 1 v done.length ((done.map (·.1)).map (Value.int .i64)) ∧ Below w.heap.size w wr
set_option maxHeartbeats 1000000 in
theorem ref02_Scalars (s : ByteArray) (w : World) (h1 : s.size ≤ 1099511627775) :
    Calls Tryz.prog 48 #[.string s] w fun e w' => ∃ v, e = .returned (.tuple #[v, .bool (okAll (nums s))]) ∧ w'.ownsRow w.heap.size 3 1 v (scalL (nums s)).length ((scalL (nums s)).map (Value.int .i64)) ∧ Below w.heap.size w w' := by
  go_enter Tryz.func48, Tryz.ntmps48
  go_wp2_with fail
  go_loopw [4, 5] (fun v a wr => ScalAt s w v a wr) (fun _ a _ => s.size - (intOf a).toNat)
  case atStart => exact ⟨0, [], rfl, by omega, by simp, rfl, by simp, World.ownsRow_nil _ _ _ _, Below.refl _ _⟩
  case round =>
    obtain ⟨k, done, rfl, hk, hdk, hok, hq, hown, hb⟩ := hrel
    by_cases hlt : k < s.size
    · have hpd := pieces_drop hlt
      have hpl := piece_drop_le hlt
      obtain ⟨p, hp⟩ : ∃ p, piece ((nums s).drop k) = p := ⟨_, rfl⟩
      by_cases hneg : p.1 < 0
      · have hall : okAll (nums s) = false := by unfold okAll; rw [hq, hpd, List.all_append, List.all_cons, hp]; simp [okP]; omega
        have hsc : scalL (nums s) = [] := by unfold scalL; rw [if_neg (by rw [hall]; decide)]
        have HS := Lib.hid hsc
        have HA := Lib.hid hall
        clear hall hsc hpd hq hok
        go_wp2_with (go_at_call 90; refine (ref02_Next_no s k _ (by omega) hlt (by rw [hp]; exact hneg)).mono ?_; rintro e w' ⟨rfl, rfl⟩)
        go_ret2
        exact ⟨_, by rw [HA.out]; rfl, by rw [HS.out]; exact World.ownsRow_nil _ _ _ _, hb⟩
      · obtain ⟨v', w1, hr, ho1, hb1, _⟩ := app_int wr w.heap.size u4 done.length (done.map (·.1)) hown p.1 (by omega) hb.size
        have hrel1 : ∀ x, x = Value.int .i64 (k + p.2 : Nat) → ScalAt s w v' x w1 := fun x hx => ⟨k + p.2, done ++ [p], hx, by rw [hp] at hpl; omega, by rw [hp] at hpl; simp; omega, by rw [List.all_append, hok]; simp [okP]; omega, by rw [hq, hpd, hp]; simp, by simpa using ho1, hb.trans hb1⟩
        have hpl2 : 1 ≤ p.2 ∧ k + p.2 ≤ s.size := by rw [hp] at hpl; exact hpl
        have HP := Lib.hid hp
        have HR := Lib.hid hr
        clear hpd hq hok hp hown ho1 hb1 hpl hr
        go_wp2_with (first
          | (at_builtin; refine wpList_append_run rfl _ _ _ _ rfl _ _ rfl rfl _ _ HR.out ?_)
          | (go_at_call 90; refine (ref02_Next_ok s k _ (by omega) hlt p HP.out (by omega)).mono ?_; rintro e w' ⟨rfl, rfl⟩))
        exact ⟨hrel1 _ (by go_num), by simp [intOf]; omega⟩
    · have hend := pieces_drop_end (s := s) (k := k) (by omega)
      rw [hend, List.append_nil] at hq
      have hall : okAll (nums s) = true := by unfold okAll; rw [hq]; exact hok
      have hsc : scalL (nums s) = done.map (·.1) := by unfold scalL; rw [if_pos hall, hq]
      have HS := Lib.hid hsc
      have HA := Lib.hid hall
      clear hall hsc hend hq hok
      go_wp2
      go_ret2
      exact ⟨_, by rw [HA.out]; rfl, by rw [HS.out]; simpa using hown, hb⟩
set_option maxHeartbeats 400000 in
theorem ref02_Valid (s : ByteArray) (w : World) (h1 : s.size ≤ 1099511627775) :
    Calls Tryz.prog 19 #[.string s] w fun e w' => e = .returned (.bool (okAll (nums s))) ∧ Below w.heap.size w w' := by
  go_enter Tryz.func19, Tryz.ntmps19
  go_wp2_with (go_at_call 48; refine (ref02_Scalars s _ h1).mono ?_; rintro e w' ⟨v, rfl, _, hb⟩)
  go_ret
  exact ⟨rfl, hb⟩
theorem take_snoc {α : Type} (l : List α) (k : Nat) (h : k < l.length) : l.take (k + 1) = l.take k ++ [l[k]] := by
  rw [List.take_succ_eq_append_getElem h]
theorem scAll_snoc (l : List Int) (x : Int) : scAll (l ++ [x]) = (scAll l && isSc x) := by simp [scAll]
theorem encAll_snoc (l : List Int) (x : Int) : encAll (l ++ [x]) = encAll l ++ encN x := by simp [encAll]
theorem scAll_take {l : List Int} {k : Nat} (h : k < l.length) (hx : isSc l[k] = false) : scAll l = false := by
  unfold scAll
  rw [List.all_eq_false]
  exact ⟨l[k], List.getElem_mem h, by simp [hx]⟩
theorem textS_yes {l : List Int} (h : scAll l = true) : textS l = strOfNums (encAll l) := if_pos h
theorem textS_no {l : List Int} (h : scAll l = false) : textS l = ⟨#[]⟩ := by unfold textS; rw [if_neg (by rw [h]; decide)]; rfl
theorem encS_nums (r : Int) : ((encS r).data.toList.map fun c => (c.toNat : Int)) = encN r := by
  refine nums_strOfNums (encN r) ?_
  unfold encN
  by_cases h : isSc r = true
  · have hb := isSc_bd h
    rw [if_neg (by rw [h]; decide)]
    (repeat' split) <;> (intro x hx; simp only [List.mem_cons, List.not_mem_nil, or_false] at hx; omega)
  · rw [if_pos (by simpa using h)]
    intro x hx
    cases hx
theorem encS_size (r : Int) : (encS r).size = (encN r).length := strOfNums_size _
/-- so far all are scalars, and their bytes are gathered. -/
def TextAt (xs : List Int) (w : World) (v i : Value) (wr : World) : Prop :=
  ∃ k : Nat, i = .int .i64 k ∧ k ≤ xs.length ∧ scAll (xs.take k) = true ∧ wr.ownsRow w.heap.size 5 1 v (encAll (xs.take k)).length ((encAll (xs.take k)).map (Value.int .u8)) ∧ Below w.heap.size w wr
set_option maxHeartbeats 1000000 in
theorem ref02_Text (v : Value) (xs : List Int) (B : Nat) (w : World) (hr : Reads B w v (xs.map (Value.int .i64))) (hB : B ≤ w.heap.size) (hl : xs.length ≤ 137438953472) :
    Calls Tryz.prog 83 #[v] w fun e w' => e = .returned (.tuple #[.string (textS xs), .bool (scAll xs)]) ∧ Below w.heap.size w w' := by
  obtain ⟨_, a, cap, rfl, hc⟩ := hr
  rw [List.length_map] at *
  go_enter Tryz.func83, Tryz.ntmps83
  go_wp2_with fail
  go_loopw [4, 5] (fun v i wr => TextAt xs w v i wr) (fun _ i _ => xs.length - (intOf i).toNat)
  case atStart => exact ⟨0, rfl, by omega, rfl, World.ownsRow_nil _ _ _ _, Below.refl _ _⟩
  case round =>
    obtain ⟨k, rfl, hk, hok, hown, hb⟩ := hrel
    by_cases hlt : k < xs.length
    · obtain ⟨b, off, rfl, hbB, hcell⟩ : ∃ b off, a = some ⟨b, off, none⟩ ∧ b < B ∧ ∀ i (h : i < xs.length), w.cell? ⟨b, off + i, none⟩ = some (.int .i64 xs[i]) := by
        rcases hc with h | ⟨b, off, e, hb, h⟩
        · rw [List.map_eq_nil_iff] at h; subst h; simp at hlt
        · exact ⟨b, off, e, hb, fun i hi => by rw [h i (by rw [List.length_map]; exact hi), List.getElem_map]⟩
      have hc1 : wr.cell? ⟨b, off + k, none⟩ = some (.int .i64 xs[k]) := (hb.cell (p := ⟨b, off + k, none⟩) (by exact Nat.lt_of_lt_of_le hbB hB)).trans (hcell k hlt)
      obtain ⟨x, hx⟩ : ∃ x, xs[k] = x := ⟨_, rfl⟩
      rw [hx] at hc1
      clear hc hcell
      cases hsx : isSc x with
      | false =>
        have hall : scAll xs = false := scAll_take hlt (by rw [hx]; exact hsx)
        have HT := Lib.hid (textS_no hall)
        have HA := Lib.hid hall
        have HS := Lib.hid hsx
        clear hall hsx hok hx
        go_wp2_with (go_at_call 126; refine (ref02_Put x _).mono ?_; rw [HS.out]; rintro e w' ⟨rfl, hb2⟩)
        go_ret2
        exact ⟨by rw [HA.out, HT.out]; rfl, hb.trans (hb2.mono hb.size)⟩
      | true =>
        have hlen := encAll_len (xs.take k)
        rw [List.length_take, Nat.min_eq_left hk] at hlen
        have hel := encN_len x
        have hsz := encS_size x
        have hnew : xs.take (k + 1) = xs.take k ++ [x] := by rw [take_snoc xs k hlt, hx]
        have happ := fun (w' : World) (hb2 : Below wr.heap.size wr w') => app_str w' w.heap.size u4 _ _ (own_below hown hb2 (Nat.le_refl _)) (encS x) (by omega) (Nat.le_trans hb.size hb2.size)
        have hfin : ∀ (w1 : World) (v' i : Value), i = .int .i64 (k + 1 : Nat) → w1.ownsRow w.heap.size 5 1 v' ((encAll (xs.take k)).length + (encS x).size) ((encAll (xs.take k) ++ (encS x).data.toList.map fun c => (c.toNat : Int)).map (Value.int .u8)) → Below w.heap.size wr w1 → TextAt xs w v' i w1 := by
          intro w1 v' i hi ho hb1
          rw [encS_nums, encS_size, ← encAll_snoc, ← hnew] at ho
          refine ⟨k + 1, hi, hlt, by rw [hnew, scAll_snoc, hok, hsx]; rfl, ?_, hb.trans hb1⟩
          have e : (encAll (xs.take (k + 1))).length = (encAll (xs.take k)).length + (encN x).length := by rw [hnew, encAll_snoc, List.length_append]
          rw [e]; exact ho
        have HS := Lib.hid hsx
        have HF := Lib.hid hfin
        have HAp := Lib.hid happ
        clear hsx hfin happ hnew hsz hel hlen hown hok hx
        go_wp2_with (first
          | (at_builtin; refine wpList_append_run rfl _ _ _ _ rfl _ _ rfl rfl _ _ HR.out ?_)
          | (go_at_call 126; refine (ref02_Put x _).mono ?_; rw [HS.out]; rintro e w' ⟨rfl, hb2⟩; obtain ⟨v', w1, hr, ho1, hb1⟩ := HAp.out w' hb2; have HR := Lib.hid hr; clear hr))
        exact ⟨HF.out _ _ _ (by go_num) ho1 ((hb2.mono hb.size).trans hb1), by simp [intOf]; omega⟩
    · obtain rfl : k = xs.length := by omega
      rw [List.take_length] at hok hown
      have hconv := conv_own wr w.heap.size u4 _ _ hown
      have HT := Lib.hid (textS_yes hok)
      have HA := Lib.hid hok
      clear hown hok hc
      go_wp2
      go_ret2
      exact ⟨by rw [HT.out, HA.out]; rfl, hb⟩
theorem nums_extract (s : ByteArray) (a b : Nat) : ((s.extract a b).data.toList.map fun c => (c.toNat : Int)) = ((nums s).drop a).take (b - a) := by
  rw [ByteArray.data_extract, Array.toList_extract]
  unfold nums
  rw [List.extract_eq_take_drop, List.map_take, List.map_drop]
theorem firstP_lo : ∀ (a : Nat) (l : List (Int × Nat)), -1 ≤ firstP a l
  | _, [] => by simp [firstP]
  | a, p :: r => by
    rw [firstP]
    split
    · omega
    · exact firstP_lo _ r
theorem firstP_snoc (p : Int × Nat) : ∀ (a : Nat) (l : List (Int × Nat)), firstP a (l ++ [p]) = if firstP a l < 0 then (if p.1 < 0 then ((a + (l.map (·.2)).sum : Nat) : Int) else -1) else firstP a l
  | a, [] => by simp [firstP]
  | a, q :: r => by
    rw [List.cons_append, firstP, firstP]
    by_cases h : q.1 < 0
    · rw [if_pos h, if_pos h, if_neg (by omega)]
    · rw [if_neg h, if_neg h, firstP_snoc p (a + q.2) r]
      simp [Nat.add_assoc]
/-- so far the pieces are told, and the first wrong one is known. -/
def LooseAt (s : ByteArray) (w : World) (v f i : Value) (wr : World) : Prop :=
  ∃ (k : Nat) (done : List (Int × Nat)), i = .int .i64 k ∧ k ≤ s.size ∧ done.length ≤ k ∧ pieces (nums s) = done ++ pieces ((nums s).drop k) ∧ (done.map (·.2)).sum = k ∧ f = .int .i64 (firstP 0 done) ∧
    wr.ownsRow w.heap.size 5 1 v (done.flatMap mend).length ((done.flatMap mend).map (Value.int .u8)) ∧ Below w.heap.size w wr
set_option maxRecDepth 100000 in
set_option maxHeartbeats 1000000 in
theorem ref02_Loose (s : ByteArray) (w : World) (h1 : s.size ≤ 137438953472) :
    Calls Tryz.prog 40 #[.string s] w fun e w' => e = .returned (.tuple #[.string (strOfNums (looseN (nums s))), .int .i64 (firstN (nums s))]) ∧ Below w.heap.size w w' := by
  go_enter Tryz.func40, Tryz.ntmps40
  go_wp2_with fail
  go_loopw [4, 5, 6] (fun v f a wr => LooseAt s w v f a wr) (fun _ _ a _ => s.size - (intOf a).toNat)
  case atStart => exact ⟨0, [], rfl, by omega, by simp, by simp, rfl, rfl, World.ownsRow_nil _ _ _ _, Below.refl _ _⟩
  case round =>
    obtain ⟨k, done, rfl, hk, hdk, hq, hsum, rfl, hown, hb⟩ := hrel
    have hlen := flatMap_len mend 4 mend_len done
    by_cases hlt : k < s.size
    · have hpd := pieces_drop hlt
      have hpl := piece_drop_le hlt
      obtain ⟨p, hp⟩ : ∃ p, piece ((nums s).drop k) = p := ⟨_, rfl⟩
      rw [hp] at hpd hpl
      have hstep : ∀ (w1 : World) (v' f' i' : Value), i' = .int .i64 (k + p.2 : Nat) → f' = .int .i64 (firstP 0 (done ++ [p])) → w1.ownsRow w.heap.size 5 1 v' ((done.flatMap mend).length + (mend p).length) ((done.flatMap mend ++ mend p).map (Value.int .u8)) → Below w.heap.size wr w1 → LooseAt s w v' f' i' w1 := by
        intro w1 v' f' i' hi hf ho hb1
        refine ⟨k + p.2, done ++ [p], hi, by omega, by simp; omega, by rw [hq, hpd]; simp, by simp [hsum], hf, ?_, hb.trans hb1⟩
        rw [List.flatMap_append, List.length_append]
        simpa using ho
      by_cases hneg : p.1 < 0
      · have hm : mend p = [239, 191, 189] := if_pos hneg
        have hf : firstP 0 (done ++ [p]) = if firstP 0 done < 0 then (k : Int) else firstP 0 done := by
          rw [firstP_snoc, hsum]; simp [hneg]
        obtain ⟨v', w1, hr, ho1, hb1, _⟩ := app_u8_3 wr w.heap.size u4 _ (done.flatMap mend) hown 239 191 189 (by omega) hb.size
        rw [← hm] at ho1
        have HF := Lib.hid (fun i' f' hi hf' => hstep w1 v' f' i' hi hf' (by rw [hm] at ho1 ⊢; exact ho1) hb1)
        have HE := Lib.hid hf
        have HR := Lib.hid hr
        have HN := Lib.hid (pR_no hneg)
        have HO := Lib.hid (pOk_no hneg)
        have HP := Lib.hid hp
        have hfb := firstP_lo 0 done
        clear hr hf hm hstep hpd hq hsum hp
        by_cases hfn : firstP 0 done < 0
        · go_wp2_with (first
            | (at_builtin; refine wpList_append_run rfl _ _ _ _ rfl _ _ rfl rfl _ _ HR.out ?_)
            | (go_at_call 79; refine (ref02_part s k _ hlt (by omega)).mono ?_; rw [HP.out, HN.out, HO.out]; rintro e w' ⟨rfl, rfl⟩))
          exact ⟨HF.out _ _ (by go_num) (by rw [HE.out, if_pos hfn]), by simp [intOf]; omega⟩
        · go_wp2_with (first
            | (at_builtin; refine wpList_append_run rfl _ _ _ _ rfl _ _ rfl rfl _ _ HR.out ?_)
            | (go_at_call 79; refine (ref02_part s k _ hlt (by omega)).mono ?_; rw [HP.out, HN.out, HO.out]; rintro e w' ⟨rfl, rfl⟩))
          exact ⟨HF.out _ _ (by go_num) (by rw [HE.out, if_neg (by omega)]), by simp [intOf]; omega⟩
      · have hm : mend p = encN p.1 := if_neg hneg
        have hpe := (piece_enc ((nums s).drop k) (fun x hx => nums_isBs s x (List.mem_of_mem_drop hx)) (by rw [hp]; omega)).2
        rw [hp] at hpe
        have hmx : mend p = (s.extract k (k + p.2)).data.toList.map fun c => (c.toNat : Int) := by rw [hm, hpe, nums_extract]; simp
        have hsz : (s.extract k (k + p.2)).size = (mend p).length := by rw [hmx, List.length_map, Array.length_toList]; rfl
        have hml := mend_len p
        have hf : firstP 0 (done ++ [p]) = firstP 0 done := by
          rw [firstP_snoc, if_neg hneg]
          have := firstP_lo 0 done
          split <;> omega
        obtain ⟨v', w1, hr, ho1, hb1⟩ := app_str wr w.heap.size u4 _ (done.flatMap mend) hown (s.extract k (k + p.2)) (by omega) hb.size
        rw [← hmx, hsz] at ho1
        have HF := Lib.hid (fun i' f' hi hf' => hstep w1 v' f' i' hi hf' ho1 hb1)
        have HE := Lib.hid hf
        have HR := Lib.hid hr
        have HN := Lib.hid (pR_of (p := p) (by omega))
        have HO := Lib.hid (pOk_of (p := p) (by omega))
        have HP := Lib.hid hp
        clear hr hf hm hstep hpd hq hsum hp hmx hsz hpe ho1 hown
        go_wp2_with (first
          | (at_builtin; refine wpList_append_run rfl _ _ _ _ rfl _ _ rfl rfl _ _ HR.out ?_)
          | (go_at_call 79; refine (ref02_part s k _ hlt (by omega)).mono ?_; rw [HP.out, HN.out, HO.out]; rintro e w' ⟨rfl, rfl⟩))
        exact ⟨HF.out _ _ (by go_num) (by rw [HE.out]), by simp [intOf]; omega⟩
    · have hend := pieces_drop_end (s := s) (k := k) (by omega)
      rw [hend, List.append_nil] at hq
      have hconv := conv_own wr w.heap.size u4 _ _ hown
      have HL := Lib.hid (show looseN (nums s) = done.flatMap mend by unfold looseN; rw [hq])
      have HFi := Lib.hid (show firstN (nums s) = firstP 0 done by unfold firstN; rw [hq])
      clear hq hend hown
      go_wp2
      go_ret2
      exact ⟨by rw [HL.out, HFi.out]; rfl, hb⟩
end Go.Proofs.YthahfoliblgegaaGreatDoor
/- 
  The walks of utf8: pieces (an iterator) and its contract.
 -/
namespace Go.Proofs.YthahfoliblgegaaGreatDoor
open Go.RowKit Go.Shelf
attribute [local go_sem] Oper.semAt_some
/-- where each piece begins, and its scalar. -/
def posP : Nat → List (Int × Nat) → List (Nat × Int)
  | _, [] => []
  | a, p :: r => (a, p.1) :: posP (a + p.2) r
theorem posP_snoc (p : Int × Nat) : ∀ (a : Nat) (l : List (Int × Nat)), posP a (l ++ [p]) = posP a l ++ [(a + (l.map (·.2)).sum, p.1)]
  | a, [] => by simp [posP]
  | a, q :: r => by rw [List.cons_append, posP, posP, posP_snoc p (a + q.2) r]; simp [Nat.add_assoc]
theorem posP_append : ∀ (a : Nat) (l m : List (Int × Nat)), ∃ m', posP a (l ++ m) = posP a l ++ m'
  | a, [], m => ⟨posP a m, rfl⟩
  | a, q :: r, m => by
    obtain ⟨m', h⟩ := posP_append (a + q.2) r m
    exact ⟨m', by rw [List.cons_append, posP, posP, h]; rfl⟩
theorem posP_length : ∀ (a : Nat) (l : List (Int × Nat)), (posP a l).length = l.length
  | _, [] => rfl
  | a, q :: r => by rw [posP, List.length_cons, List.length_cons, posP_length]
/-- what a text's iterator hands out. -/
def els (s : ByteArray) : List (Nat × Int) := posP 0 (pieces (nums s))
set_option maxHeartbeats 1000000 in
theorem utf8_pieces_in (F : Fence) (n : Nat) (h27 : F.fn 117) (hro : F.round = none) (s : ByteArray) (w : World) :
    CallsIn F n Tryz.prog 117 #[.string s] w fun e w' => e = .returned (.func (.func 144) #[] #[.pointer (some ⟨w.heap.size, 0, none⟩)]) ∧ w' = w.alloc (.cells #[.string s] 9) := by
  refine callsIn_of_wp Tryz.func117 rfl h27 ?_ hro
  simp only [Tryz.ntmps117, List.size_toArray, List.length_cons, List.length_nil, Nat.reduceAdd, Nat.reduceSub, Array.replicate_succ, Array.replicate_zero, List.push_toArray, List.append_toArray, List.nil_append, List.cons_append]
  gi_wp2
  go_ret
  exact ⟨rfl, rfl⟩
set_option maxRecDepth 100000 in
set_option maxHeartbeats 2000000 in
theorem utf8_pieces1_in (n : Nat) (hn : 1 ≤ n) (l Bs : Nat) (s : ByteArray) (hs : s.size ≤ 1099511627776) (J Jx : List (Nat × Int) → World → Prop)
    (hY : ∀ pre x W, J pre W → pre.length < s.size → YieldAt Fence.wide (n - 1) Tryz.prog l #[.int .i64 (x.1 : Nat), .int .i64 x.2] W fun e W' =>
      (e = .returned (.bool true) ∧ J (pre ++ [x]) W' ∧ W'.cell? ⟨Bs, 0, none⟩ = W.cell? ⟨Bs, 0, none⟩) ∨ (e = .returned (.bool false) ∧ Jx (pre ++ [x]) W'))
    (W : World) (hBs : W.cell? ⟨Bs, 0, none⟩ = some (.string s)) (h0 : J [] W) :
    CallsIn Fence.wide n Tryz.prog 144 #[.func (.yield l) #[] #[], .pointer (some ⟨Bs, 0, none⟩)] W fun e W' => (∃ v, e = .returned v) ∧
      ((∃ ys, ys = els s ∧ J ys W') ∨ (∃ pre, pre <+: els s ∧ Jx pre W')) := by
  refine callsIn_of_wp Tryz.func144 rfl trivial ?_ rfl
  simp only [Tryz.ntmps144, List.size_toArray, List.length_cons, List.length_nil, Nat.reduceAdd, Nat.reduceSub, Array.replicate_succ, Array.replicate_zero, List.push_toArray, List.append_toArray, List.nil_append, List.cons_append]
  gi_wp2
  gi_loopw [3] (fun a wr => ∃ (k : Nat) (done : List (Int × Nat)), a = .int .i64 k ∧ k ≤ s.size ∧ done.length ≤ k ∧ pieces (nums s) = done ++ pieces ((nums s).drop k) ∧ (done.map (·.2)).sum = k ∧ J (posP 0 done) wr ∧ wr.cell? ⟨Bs, 0, none⟩ = some (.string s))
    (fun a _ => s.size - (intOf a).toNat)
  case atStart => exact ⟨0, [], rfl, by omega, by simp, by simp, rfl, h0, hBs⟩
  case round =>
    obtain ⟨k, done, rfl, hk, hdk, hq, hsum, hJ, hc⟩ := hrel
    by_cases hlt : k < s.size
    · have hpd := pieces_drop hlt
      have hpl := piece_drop_le hlt
      obtain ⟨p, hp⟩ : ∃ p, piece ((nums s).drop k) = p := ⟨_, rfl⟩
      rw [hp] at hpd hpl
      have hel : els s = posP 0 done ++ (k, p.1) :: posP (k + p.2) (pieces ((nums s).drop (k + p.2))) := by
        unfold els
        rw [hq, hpd, show p :: pieces ((nums s).drop (k + p.2)) = [p] ++ pieces ((nums s).drop (k + p.2)) from rfl]
        have : ∀ (a : Nat) (l m : List (Int × Nat)), posP a (l ++ m) = posP a l ++ posP (a + (l.map (·.2)).sum) m := by
          intro a l
          induction l generalizing a with
          | nil => intro m; simp [posP]
          | cons q r ih => intro m; rw [List.cons_append, posP, posP, ih]; simp [Nat.add_assoc]
        rw [this, hsum]
        simp [posP]
      obtain ⟨fn, tmps, assign, body, hy, hR⟩ := hY (posP 0 done) (k, p.1) wr hJ (by rw [posP_length]; omega)
      dsimp only at hy
      have HP := Lib.hid hp
      have HE := Lib.hid hel
      have HQ := Lib.hid hq
      have HPD := Lib.hid hpd
      clear hp hel hq hpd
      gi_wp2_with (refine ⟨trivial, ?_⟩; gi_at_call 128; refine (callsIn_wide.2 (utf8_piece s k _ hlt (by omega))).mono ?_; rw [HP.out]; rintro e w' ⟨rfl, rfl⟩)
      refine hR.mono ?_
      rintro e W3 (⟨rfl, hJ3, hk3⟩ | ⟨rfl, hJx3⟩)
      · have hc3 := hk3.trans hc
        clear hk3
        gi_wp2
        go_roundw
        case rel => exact ⟨k + p.2, done ++ [p], by go_num, by omega, by simp; omega, by rw [HQ.out, HPD.out]; simp, by simp [hsum], by rw [posP_snoc, hsum, Nat.zero_add]; exact hJ3, hc3⟩
        case measure => simp [intOf]; omega
      · gi_wp2
        refine bodyPost_ret (results_none rfl _ _ _) rfl ?_
        exact ⟨⟨_, rfl⟩, .inr ⟨_, ⟨_, by rw [HE.out, List.append_assoc]; rfl⟩, hJx3⟩⟩
    · have hend := pieces_drop_end (s := s) (k := k) (by omega)
      rw [hend, List.append_nil] at hq
      have HE := Lib.hid (show els s = posP 0 done by unfold els; rw [hq])
      clear hq hend
      gi_wp2
      go_end0
      exact ⟨⟨_, rfl⟩, .inl ⟨_, HE.out.symm, hJ⟩⟩
/-- what a round that goes on keeps: the text's box. -/
def KeepsBox (B : Nat) (W W' : World) : Prop := W'.cell? ⟨B, 0, none⟩ = W.cell? ⟨B, 0, none⟩
theorem keepsBox_t {Bs : Nat} {A B C : World} (h : KeepsBox Bs A B) (k : KeepsBox Bs B C) : KeepsBox Bs A C := Eq.trans k h
theorem keepsBox_b {Bs : Nat} {w : World} (hB : Bs < w.heap.size) (W : World) (l : Nat) (_o o' : Obj) (hl : w.heap.size ≤ l) (hW : W.heap[l]? = some _o) (_ : _o.isCells = false) (_ : _o.isWalk = false) : KeepsBox Bs W (W.putObj l o') :=
  World.cell?_of_block ((grownBy_putObj' W l o').block Bs (by have := (Array.getElem?_eq_some_iff.1 hW).1; omega) (by simp; omega))
theorem utf8_pieces_stops (n : Nat) (hn : 1 ≤ n) (Bs : Nat) (s : ByteArray) (hs : s.size ≤ 1099511627776) (w : World) (hBs : Bs < w.heap.size) (hc : w.cell? ⟨Bs, 0, none⟩ = some (.string s)) :
    SeqStopsK Fence.wide n Tryz.prog 144 #[.pointer (some ⟨Bs, 0, none⟩)] (fun x : Nat × Int => #[Value.int .i64 (x.1 : Nat), Value.int .i64 x.2]) (KeepsBox Bs) (fun ys => ys = els s) (fun pre => pre <+: els s) s.size w := fun l J Jx W hW _ _ hY h0 =>
  utf8_pieces1_in n hn l Bs s hs J Jx hY W ((hW.cell (p := ⟨Bs, 0, none⟩) hBs).trans hc) h0
theorem keepsOthers_of_below {W W' : World} (h : Below W.heap.size W W') : KeepsOthers W W' := ⟨h.size, fun k _ hk _ => (h.block k (Array.getElem?_eq_some_iff.1 hk).1).trans hk⟩
theorem boxed_ownE {β γ : Type} (B : Nat) (t : TypeId) (f : γ → Value) (G : β → γ → Prop) : Own (fun s W => ∃ k, Boxed W B t (f k) ∧ G s k) := by
  rintro s X Y row ⟨k, hk, hG⟩ hg hrow
  exact ⟨k, boxed_own B t (fun _ : β => f k) s X Y row hk hg hrow, hG⟩
end Go.Proofs.YthahfoliblgegaaGreatDoor
