/-
  Slices: a slice value that reads as a list; append to a slice of the call's own as an equation on its run.
-/
import Derived.Test.YteefopeclfojiaaBase
import Derived.Lib.AppendStr
namespace Go.Proofs.Yteefopeclfojiaa
open Go.RowKit Go.Lib
theorem addr0 (g i : Nat) : (⟨g, 0, none⟩ : Addr).add i = ⟨g, 0 + i, none⟩ := by unfold Addr.add; split <;> simp_all
/-- an append whose run is known. -/
theorem wpList_append_run {P : Program} {w : World} {ops : Array Oper} {rest : List Oper} {o : Oper} {a : Act} {Q : Exit → Act → World → Prop} (hgd : o.guard = none) (s x : Operand) (t tx : TypeId)
    (ho : o.op = .call { callee := .builtin .append, args := #[s, x], argTypes := #[t, tx] }) (v xv : Value) (hs : a.eval s = v) (hx : a.eval x = xv) (v' : Value) (w' : World)
    (hr : (Builtin.append_ #[t, tx] o.type #[v, xv]).run P w = .ok v' w') (h : wpList P ops Q rest (a.put o.dst v') w') : wpList P ops Q (o :: rest) a w :=
  wpList_plain hgd fun K hK => by
    unfold Oper.wp execOp
    simp only [ho, resolve, invoke, builtin, Sem.run_bind, Sem.run_pure, Result.andThen_ok, List.map_toArray, List.map_cons, List.map_nil, hs, hx, hr]
    exact hK _ _ h
/-- the slice value reads as the list xs, in blocks below B. -/
def Reads (B : Nat) (w : World) (v : Value) (xs : List Value) : Prop :=
  xs.length ≤ maxLen ∧ ∃ a cap, v = .slice a xs.length cap ∧ (xs = [] ∨ ∃ b off, a = some ⟨b, off, none⟩ ∧ b < B ∧ ∀ i (h : i < xs.length), w.cell? ⟨b, off + i, none⟩ = some xs[i])
theorem Reads.below {B : Nat} {w w' : World} {v : Value} {xs : List Value} (h : Reads B w v xs) {C : Nat} (hb : Below C w w') (hBC : B ≤ C) : Reads B w' v xs := by
  obtain ⟨hl, a, cap, rfl, h⟩ := h
  refine ⟨hl, a, cap, rfl, ?_⟩
  rcases h with h | ⟨b, off, rfl, hB, hc⟩
  · exact .inl h
  · exact .inr ⟨b, off, rfl, hB, fun i hi => (hb.cell (p := ⟨b, off + i, none⟩) (by exact Nat.lt_of_lt_of_le hB hBC)).trans (hc i hi)⟩
theorem Reads.mono {B C : Nat} {w : World} {v : Value} {xs : List Value} (h : Reads B w v xs) (hBC : B ≤ C) : Reads C w v xs := by
  obtain ⟨hl, a, cap, rfl, h⟩ := h
  refine ⟨hl, a, cap, rfl, ?_⟩
  rcases h with h | ⟨b, off, rfl, hB, hc⟩
  · exact .inl h
  · exact .inr ⟨b, off, rfl, Nat.lt_of_lt_of_le hB hBC, hc⟩
theorem Reads.open {B : Nat} {w : World} {v : Value} {k : IntKind} {xs : List Int} (h : Reads B w v (xs.map (Value.int k))) :
    ∃ a cap, v = .slice a xs.length cap ∧ xs.length ≤ maxLen ∧ (∀ i (_ : i < xs.length), ∃ b off, a = some ⟨b, off, none⟩ ∧ b < B ∧ w.cell? ⟨b, off + i, none⟩ = some (.int k xs[i])) := by
  obtain ⟨hl, a, cap, rfl, h⟩ := h
  rw [List.length_map] at hl
  refine ⟨a, cap, by rw [List.length_map], hl, fun i hi => ?_⟩
  rcases h with h | ⟨b, off, rfl, hB, hc⟩
  · rw [List.map_eq_nil_iff] at h; subst h; simp at hi
  · exact ⟨b, off, rfl, hB, by rw [hc i (by rw [List.length_map]; exact hi), List.getElem_map]⟩
/-- a slice over a new block reads as its cells. -/
theorem reads_alloc (W : World) (C : Array Value) (t : TypeId) (n c : Nat) (xs : List Value) (hC : C.toList = xs) (hn : xs.length = n) (hm : n ≤ maxLen) : Reads (W.heap.size + 1) (W.alloc (.cells C t)) (.slice (some ⟨W.heap.size, 0, none⟩) n c) xs := by
  subst hn
  refine ⟨hm, _, c, rfl, .inr ⟨W.heap.size, 0, rfl, by omega, fun i hi => ?_⟩⟩
  rw [World.cell?_alloc_mark]
  have : C[0 + i]? = xs[i]? := by rw [← hC]; simp
  rw [this, List.getElem?_eq_getElem hi]
/-- a slice that owns its row reads as it. -/
theorem Reads.of_own {w : World} {base : Nat} {e : TypeId} {v : Value} {n : Nat} {xs : List Value} (h : w.ownsRow base e 1 v n xs) (hn : n ≤ maxLen) : Reads w.heap.size w v xs := by
  have hxl : xs.length = n := by simpa using h.1
  have hb := h.lt
  have hc := fun g => h.cells (g := g)
  rcases h.2 with ⟨rfl, rfl⟩ | ⟨g, cap, cur, rfl, _⟩
  · exact ⟨by omega, none, 0, by rw [hxl], .inl (List.eq_nil_of_length_eq_zero hxl)⟩
  · refine ⟨by omega, some ⟨g, 0, none⟩, cap, by rw [hxl], .inr ⟨g, 0, rfl, (hb g rfl).2, fun i hi => ?_⟩⟩
    have := hc g rfl i xs[i] (by rw [List.getElem?_eq_getElem hi])
    rwa [addr0] at this
theorem ownBelow {w w' : World} {base : Nat} {e : TypeId} {size : Nat} {v : Value} {n : Nat} {xs : List Value} (hown : w.ownsRow base e size v n xs) (hg : w.grownBy w' v.ownBlock) {B : Nat} (hB : B ≤ base) (hs : B ≤ w.heap.size) : Below B w w' :=
  (Below.refl B w).grown hg hs fun k hk => Nat.le_trans hB (hown.lt k hk).1
theorem own_below {w w' : World} {base : Nat} {e : TypeId} {size : Nat} {v : Value} {n : Nat} {xs : List Value} (h : w.ownsRow base e size v n xs) {B : Nat} (hb : Below B w w') (hB : w.heap.size ≤ B) : w'.ownsRow base e size v n xs := by
  refine ⟨h.1, ?_⟩
  have hlt := h.lt
  rcases h.2 with h | ⟨g, cap, cur, rfl, h1, h2, h3⟩
  · exact .inl h
  · exact .inr ⟨g, cap, cur, rfl, h1, (hb.block g (Nat.lt_of_lt_of_le (hlt g rfl).2 hB)).trans h2, h3⟩
/-- a slice of integers that came in reads as its elements. -/
theorem reads_row {k : IntKind} {w : World} {a : Option Addr} {len cap : Nat} {zs : List Int}
    (h : (a = none ∧ len = 0 ∧ cap = 0 ∧ zs = []) ∨ ∃ x, a = some x ∧ len ≤ cap ∧ cap ≤ maxLen ∧ zs.length = cap ∧ (∀ i, i < zs.length → w.cell? (x.add i) = some (.int k (zs.getD i 0))) ∧ ∀ n ∈ zs, (Lit.int k n).wf = true) :
    Reads w.heap.size w (.slice a len cap) ((zs.take len).map (Value.int k)) := by
  rcases h with ⟨rfl, rfl, rfl, rfl⟩ | ⟨x, rfl, h1, h2, h3, h4, _⟩
  · exact ⟨by simp, none, 0, rfl, .inl rfl⟩
  · have hl : ((zs.take len).map (Value.int k)).length = len := by rw [List.length_map, List.length_take]; omega
    refine ⟨by rw [hl]; omega, some x, cap, by rw [hl], ?_⟩
    by_cases h0 : len = 0
    · left; rw [h0]; rfl
    · right
      obtain ⟨b, off, spot⟩ := x
      have hc := h4 0 (by omega)
      have hspot : spot = none := by simpa [Addr.add] using World.cell?_spot hc
      subst hspot
      have hadd : ∀ i, (⟨b, off, none⟩ : Addr).add i = ⟨b, off + i, none⟩ := fun i => by unfold Addr.add; split <;> simp_all
      have hb : b < w.heap.size := by
        rw [hadd] at hc
        simp only [World.cell?] at hc
        by_cases hlt : b < w.heap.size
        · exact hlt
        · rw [Array.getElem?_eq_none (by omega)] at hc; simp at hc
      refine ⟨b, off, rfl, hb, fun i hi => ?_⟩
      rw [hl] at hi
      have := h4 i (by omega)
      rw [hadd] at this
      rw [this, List.getElem_map, List.getElem_take]
      simp [List.getD, List.getElem?_eq_getElem (show i < zs.length by omega)]
theorem own_slice {w : World} {base : Nat} {e : TypeId} {size : Nat} {v : Value} {n : Nat} {xs : List Value} (h : w.ownsRow base e size v n xs) : ∃ a l c, v = .slice a l c := by
  rcases h.2 with ⟨rfl, _⟩ | ⟨g, cap, cur, rfl, _⟩
  · exact ⟨_, _, _, rfl⟩
  · exact ⟨_, _, _, rfl⟩
theorem infoInt : (Try.prog.info? 3).map (fun i => (i.zero, i.size, i.bytes)) = some (some (.int .i64 0), 1, 8) := by kernel_rfl
/-- 'append(out, x)', out of the call's own: some value, some world; what they are good for. -/
theorem app_int (wr : World) (base : Nat) (v : Value) (n : Nat) (xs : List Int) (hown : wr.ownsRow base 3 1 v n (xs.map (Value.int .i64))) (x : Int) (hn : n < 1099511627776) (hbase : base ≤ wr.heap.size) :
    ∃ v' w', (Builtin.append_ #[31, 31] 31 #[v, .slice (some ⟨wr.heap.size, 0, none⟩) 1 1]).run Try.prog (wr.alloc (.cells #[.int .i64 x] 3)) = .ok v' w' ∧
      w'.ownsRow base 3 1 v' (n + 1) ((xs ++ [x]).map (Value.int .i64)) ∧ Below base wr w' ∧ v' ≠ .slice none 0 0 := by
  obtain ⟨i0, hi, hz0, hz1, hz2⟩ := info_parts infoInt
  obtain ⟨v', w', h1, h2, h3, h4⟩ := run_append_own (P := Try.prog) (wr.alloc (.cells #[.int .i64 x] 3)) base 31 31 3 i0 (.int .i64 0) 1 8 Try.underlying31 hi hz0 hz1 hz2 rfl (by decide) v n _ (hown.alloc _) ⟨wr.heap.size, 0, none⟩ 1 1 [.int .i64 x] rfl
    (fun j u hj => by match j, hj with | 0, hj => simp at hj; subst hj; simp [Addr.add, World.cell?_alloc_mark]) (fun u hu => by simp at hu; subst hu; rfl) (by unfold maxLen; omega) (by omega) (by simp; omega)
  refine ⟨v', w', h1, by simpa using h2, ((Below.refl base wr).alloc hbase _).trans (ownBelow (hown.alloc _) h3 (Nat.le_refl _) (by simp; omega)), fun h => ?_⟩
  have := (h4.1 h).2
  omega
theorem app_int_g (wr : World) (base : Nat) (v : Value) (n : Nat) (xs : List Int) (hown : wr.ownsRow base 3 1 v n (xs.map (Value.int .i64))) (x : Int) (hn : n < 1099511627776) (hbase : base ≤ wr.heap.size) :
    ∃ v' w', (Builtin.append_ #[31, 31] 31 #[v, .slice (some ⟨wr.heap.size, 0, none⟩) 1 1]).run Try.prog (wr.alloc (.cells #[.int .i64 x] 3)) = .ok v' w' ∧
      w'.ownsRow base 3 1 v' (n + 1) ((xs ++ [x]).map (Value.int .i64)) ∧ (wr.alloc (.cells #[.int .i64 x] 3)).grownBy w' v.ownBlock := by
  obtain ⟨i0, hi, hz0, hz1, hz2⟩ := info_parts infoInt
  obtain ⟨v', w', h1, h2, h3, h4⟩ := run_append_own (P := Try.prog) (wr.alloc (.cells #[.int .i64 x] 3)) base 31 31 3 i0 (.int .i64 0) 1 8 Try.underlying31 hi hz0 hz1 hz2 rfl (by decide) v n _ (hown.alloc _) ⟨wr.heap.size, 0, none⟩ 1 1 [.int .i64 x] rfl
    (fun j u hj => by match j, hj with | 0, hj => simp at hj; subst hj; simp [Addr.add, World.cell?_alloc_mark]) (fun u hu => by simp at hu; subst hu; rfl) (by unfold maxLen; omega) (by omega) (by simp; omega)
  exact ⟨v', w', h1, by simpa using h2, h3⟩
theorem infoU8 : (Try.prog.info? 5).map (fun i => (i.zero, i.size, i.bytes)) = some (some (.int .u8 0), 1, 1) := by kernel_rfl
/-- 'append(out, b)' of one byte. -/
theorem app_u8 (wr : World) (base : Nat) (v : Value) (n : Nat) (xs : List Int) (hown : wr.ownsRow base 5 1 v n (xs.map (Value.int .u8))) (x : Int) (hn : n < 1099511627776) (hbase : base ≤ wr.heap.size) :
    ∃ v' w', (Builtin.append_ #[112, 112] 112 #[v, .slice (some ⟨wr.heap.size, 0, none⟩) 1 1]).run Try.prog (wr.alloc (.cells #[.int .u8 x] 5)) = .ok v' w' ∧
      w'.ownsRow base 5 1 v' (n + 1) ((xs ++ [x]).map (Value.int .u8)) ∧ Below base wr w' ∧ v' ≠ .slice none 0 0 := by
  obtain ⟨i0, hi, hz0, hz1, hz2⟩ := info_parts infoU8
  obtain ⟨v', w', h1, h2, h3, h4⟩ := run_append_own (P := Try.prog) (wr.alloc (.cells #[.int .u8 x] 5)) base 112 112 5 i0 (.int .u8 0) 1 1 Try.underlying112 hi hz0 hz1 hz2 rfl (by decide) v n _ (hown.alloc _) ⟨wr.heap.size, 0, none⟩ 1 1 [.int .u8 x] rfl
    (fun j u hj => by match j, hj with | 0, hj => simp at hj; subst hj; simp [Addr.add, World.cell?_alloc_mark]) (fun u hu => by simp at hu; subst hu; rfl) (by unfold maxLen; omega) (by omega) (by simp; omega)
  refine ⟨v', w', h1, by simpa using h2, ((Below.refl base wr).alloc hbase _).trans (ownBelow (hown.alloc _) h3 (Nat.le_refl _) (by simp; omega)), fun h => ?_⟩
  have := (h4.1 h).2
  omega
/-- 'append(out, b0, b1, b2)' of three bytes. -/
theorem app_u8_3 (wr : World) (base : Nat) (v : Value) (n : Nat) (xs : List Int) (hown : wr.ownsRow base 5 1 v n (xs.map (Value.int .u8))) (x y z : Int) (hn : n < 1099511627776) (hbase : base ≤ wr.heap.size) :
    ∃ v' w', (Builtin.append_ #[112, 112] 112 #[v, .slice (some ⟨wr.heap.size, 0, none⟩) 3 3]).run Try.prog (wr.alloc (.cells #[.int .u8 x, .int .u8 y, .int .u8 z] 5)) = .ok v' w' ∧
      w'.ownsRow base 5 1 v' (n + 3) ((xs ++ [x, y, z]).map (Value.int .u8)) ∧ Below base wr w' ∧ v' ≠ .slice none 0 0 := by
  obtain ⟨i0, hi, hz0, hz1, hz2⟩ := info_parts infoU8
  obtain ⟨v', w', h1, h2, h3, h4⟩ := run_append_own (P := Try.prog) (wr.alloc (.cells #[.int .u8 x, .int .u8 y, .int .u8 z] 5)) base 112 112 5 i0 (.int .u8 0) 1 1 Try.underlying112 hi hz0 hz1 hz2 rfl (by decide) v n _ (hown.alloc _) ⟨wr.heap.size, 0, none⟩ 3 3 [.int .u8 x, .int .u8 y, .int .u8 z] rfl
    (fun j u hj => by
      match j, hj with
      | 0, hj => simp at hj; subst hj; simp [Addr.add, World.cell?_alloc_mark]
      | 1, hj => simp at hj; subst hj; simp [Addr.add, World.cell?_alloc_mark]
      | 2, hj => simp at hj; subst hj; simp [Addr.add, World.cell?_alloc_mark]) (fun u hu => by simp at hu; rcases hu with rfl | rfl | rfl <;> rfl) (by unfold maxLen; omega) (by omega) (by simp; omega)
  refine ⟨v', w', h1, by simpa using h2, ((Below.refl base wr).alloc hbase _).trans (ownBelow (hown.alloc _) h3 (Nat.le_refl _) (by simp; omega)), fun h => ?_⟩
  have := (h4.1 h).2
  omega
theorem strCells_nums (s : ByteArray) : strCells s = (s.data.toList.map fun c => (c.toNat : Int)).map (Value.int .u8) := by simp [strCells]
/-- 'append(out, s...)', s a string: the row alone has grown. -/
theorem app_str_g (wr : World) (base : Nat) (v : Value) (n : Nat) (xs : List Int) (hown : wr.ownsRow base 5 1 v n (xs.map (Value.int .u8))) (s : ByteArray) (hn : n + s.size < 1099511627776) (hbase : base ≤ wr.heap.size) :
    ∃ v' w', (Builtin.append_ #[112, 9] 112 #[v, .string s]).run Try.prog wr = .ok v' w' ∧
      w'.ownsRow base 5 1 v' (n + s.size) ((xs ++ s.data.toList.map fun c => (c.toNat : Int)).map (Value.int .u8)) ∧ wr.grownBy w' v.ownBlock := by
  obtain ⟨i0, hi, hz0, hz1, hz2⟩ := info_parts infoU8
  obtain ⟨v', w', h1, h2, h3, h4⟩ := run_append_own_string (P := Try.prog) wr base 112 9 112 5 i0 Try.underlying112 Try.underlying9 hi hz0 hz1 hz2 v n _ hown s (by unfold maxLen; omega) (by omega) hbase
  exact ⟨v', w', h1, by rw [List.map_append, ← strCells_nums]; exact h2, h3⟩
/-- 'append(out, s...)', s a string. -/
theorem app_str (wr : World) (base : Nat) (v : Value) (n : Nat) (xs : List Int) (hown : wr.ownsRow base 5 1 v n (xs.map (Value.int .u8))) (s : ByteArray) (hn : n + s.size < 1099511627776) (hbase : base ≤ wr.heap.size) :
    ∃ v' w', (Builtin.append_ #[112, 9] 112 #[v, .string s]).run Try.prog wr = .ok v' w' ∧
      w'.ownsRow base 5 1 v' (n + s.size) ((xs ++ s.data.toList.map fun c => (c.toNat : Int)).map (Value.int .u8)) ∧ Below base wr w' := by
  obtain ⟨i0, hi, hz0, hz1, hz2⟩ := info_parts infoU8
  obtain ⟨v', w', h1, h2, h3, h4⟩ := run_append_own_string (P := Try.prog) wr base 112 9 112 5 i0 Try.underlying112 Try.underlying9 hi hz0 hz1 hz2 v n _ hown s (by unfold maxLen; omega) (by omega) hbase
  exact ⟨v', w', h1, by rw [List.map_append, ← strCells_nums]; exact h2, ownBelow hown h3 (Nat.le_refl _) hbase⟩
/-- 'string(out)', out of the call's own. -/
theorem conv_own (w : World) (base : Nat) (v : Value) (n : Nat) (xs : List Int) (hown : w.ownsRow base 5 1 v n (xs.map (Value.int .u8))) :
    (convert 112 9 v).run Try.prog w = .ok (.string (strOfNums xs)) w := by
  have hxl : xs.length = n := by simpa using hown.1
  rcases hown.2 with ⟨rfl, rfl⟩ | ⟨g, cap, cur, rfl, _⟩
  · obtain rfl : xs = [] := List.eq_nil_of_length_eq_zero hxl
    exact run_convert_bytes_nil w 112 5 Try.underlying112 Try.underlying5 0 0 9 Try.underlying9
  · refine run_convert_bytes_arg w 112 5 Try.underlying112 Try.underlying5 g 0 n cap xs hxl (fun i hi => ?_) 9 Try.underlying9
    have := hown.cells (g := g) rfl i (.int .u8 (xs.getD i 0)) (by simp [List.getElem?_eq_getElem (show i < xs.length by omega), List.getD])
    rwa [addr0] at this
end Go.Proofs.Yteefopeclfojiaa
