/-
  Parts AtA AtB AtN AtC AtD AtE AtF of this seat's texts, in one file: contracts of functions that the law reaches, and the plain laws behind them. No condition.
-/
import Derived.Test.YteefopeclfojiaaG8
import Derived.Test.YteefopeclfojiaaG4
import Derived.Sort.QuietTacIn
import Derived.Deep.RegionHeld3
import Derived.Test.YteefopeclfojiaaG1
import Derived.Laws.RangeAny
/- 
  Layer 24: a finder; the walk of the iterator over children of a name.
 -/
namespace Go.Proofs.Yteefopeclfojiaa
open Go.RowKit Go.Sort
attribute [local go_sem] Oper.semAt_some
/-- blocks of these types are kept. -/
def KeepsT (Ts : List TypeId) (W W' : World) : Prop := W.heap.size ≤ W'.heap.size ∧ ∀ (k : Nat) (c : Array Value) (T : TypeId) (fz : Nat × Nat), T ∈ Ts → W.heap[k]? = some (.cells c T fz) → W'.heap[k]? = W.heap[k]?
theorem KeepsT.trans {Ts : List TypeId} {A B C : World} (h : KeepsT Ts A B) (k : KeepsT Ts B C) : KeepsT Ts A C :=
  ⟨Nat.le_trans h.1 k.1, fun b c T fz hT hb => by
    have h1 := h.2 b c T fz hT hb
    exact (k.2 b c T fz hT (h1.trans hb)).trans h1⟩
theorem KeepsT.below {Ts : List TypeId} {A B : World} (h : Below A.heap.size A B) : KeepsT Ts A B := ⟨h.size, fun k _ _ _ _ hk => h.block k (Array.getElem?_eq_some_iff.1 hk).1⟩
theorem KeepsT.putObj {Ts : List TypeId} {W : World} {l : Nat} {o o' : Obj} (ho : W.heap[l]? = some o) (hc : o.isCells = false) : KeepsT Ts W (W.putObj l o') :=
  ⟨by simp, fun k c T fz _ hk => World.putObj_heap_other (fun e => by
    subst e
    rw [hk] at ho
    injection ho with ho
    subst ho
    cases hc)⟩
theorem KeepsT.setCell {Ts : List TypeId} {W : World} {b : Nat} {T : TypeId} {v : Value} (hb : Boxed W b T v) (hT : T ∉ Ts) (i : Nat) (u : Value) : KeepsT Ts W (W.setCell ⟨b, i, none⟩ u) :=
  ⟨by simp, fun k c T' fz hT' hk => heap_setCell_other W ⟨b, i, none⟩ k u (fun e => by
    subst e
    rw [show W.heap[k]? = _ from hb] at hk
    injection hk with hk
    injection hk with h1 h2
    exact hT (h2 ▸ hT'))⟩
theorem KeepsT.boxed {Ts : List TypeId} {W W' : World} (h : KeepsT Ts W W') {b : Nat} {T : TypeId} {v : Value} (hb : Boxed W b T v) (hT : T ∈ Ts) : Boxed W' b T v := (h.2 b _ T _ hT hb).trans hb
theorem KeepsT.row {Ts : List TypeId} {W W' : World} (h : KeepsT Ts W W') {base : Nat} {e : TypeId} {size : Nat} {v : Value} {n : Nat} {xs : List Value} (ho : W.ownsRow base e size v n xs) (he : e ∈ Ts) : W'.ownsRow base e size v n xs := by
  obtain ⟨h1, h2⟩ := ho
  refine ⟨h1, ?_⟩
  rcases h2 with h2 | ⟨g, cap, cur, rfl, h3, h4, h5⟩
  · exact .inl h2
  · exact .inr ⟨g, cap, cur, rfl, h3, (h.2 g _ _ _ he h4).trans h4, h5⟩
/-- the types of what an iterator over children of a name reads. -/
def fTs : List TypeId := [3, 89, 24, 91]
/-- a block of a type. -/
def RowAt (W : World) (b : Nat) (T : TypeId) (cs : Array Value) : Prop := W.heap[b]? = some (.cells cs T (0, 0))
theorem RowAt.lt {W : World} {b : Nat} {T : TypeId} {cs : Array Value} (h : RowAt W b T cs) : b < W.heap.size := (Array.getElem?_eq_some_iff.1 h).1
theorem RowAt.blk {W : World} {b : Nat} {T : TypeId} {cs : Array Value} (h : RowAt W b T cs) : BlkAt W b cs := ⟨T, h⟩
theorem RowAt.below {W W' : World} {B b : Nat} {T : TypeId} {cs : Array Value} (h : RowAt W b T cs) (hb : Below B W W') (hl : b < B) : RowAt W' b T cs := (hb.block b hl).trans h
theorem RowAt.keep {W W' : World} {Ts : List TypeId} {b : Nat} {T : TypeId} {cs : Array Value} (h : RowAt W b T cs) (hk : KeepsT Ts W W') (hT : T ∈ Ts) : RowAt W' b T cs := (hk.2 b _ T _ hT h).trans h
theorem RowAt.new (W : World) (cs : Array Value) (T : TypeId) : RowAt (W.alloc (.cells cs T)) W.heap.size T cs := heap_alloc_new W _
theorem RowAt.alloc {W : World} {b : Nat} {T : TypeId} {cs : Array Value} (h : RowAt W b T cs) (o : Obj) : RowAt (W.alloc o) b T cs := (Below.heap_alloc W o b h.lt).trans h
/-- a finder: its block. -/
def FinAt (W : World) (fp : Nat) (l : Value) (i : Int) (it : Array Value) : Prop := it.size = 7 ∧ RowAt W fp 91 (#[l, .int .i64 i] ++ it)
theorem FinAt.c0 {W : World} {fp : Nat} {l : Value} {i : Int} {it : Array Value} (h : FinAt W fp l i it) : W.cell? ⟨fp, 0, none⟩ = some l := h.2.blk.cell 0 (by rw [Array.getElem?_append]; rfl)
theorem FinAt.c1 {W : World} {fp : Nat} {l : Value} {i : Int} {it : Array Value} (h : FinAt W fp l i it) : W.cell? ⟨fp, 1, none⟩ = some (.int .i64 i) := h.2.blk.cell 1 (by rw [Array.getElem?_append]; rfl)
/-- the children of a name. -/
def namedP (es : List Evt) (i : Int) (nm : ByteArray × ByteArray) : List Nat := (kidsP es i).filter fun k => decide ((es[k]?).map Evt.n = some nm)
/-- what the iterator reads. -/
structure NkAt (Bf Bn fp : Nat) (l : Value) (i : Int) (it : Array Value) (nm : ByteArray × ByteArray) (W : World) : Prop where
  bf : Boxed W Bf 89 (.pointer (some ⟨fp, 0, none⟩))
  bn : RowAt W Bn 24 #[.string nm.1, .string nm.2]
  fi : FinAt W fp l i it
theorem NkAt.keep {Bf Bn fp : Nat} {l : Value} {i : Int} {it : Array Value} {nm : ByteArray × ByteArray} {W W' : World} (h : NkAt Bf Bn fp l i it nm W) (hk : KeepsT fTs W W') : NkAt Bf Bn fp l i it nm W' :=
  ⟨hk.boxed h.bf (by simp [fTs]), h.bn.keep hk (by simp [fTs]), h.fi.1, h.fi.2.keep hk (by simp [fTs])⟩
theorem abides_below {β : Type} {B : Nat} {J : β → World → Prop} (h : AbidesM NoMu B J) {s : β} {W W' : World} (hj : J s W) (hb : Below W.heap.size W W') : J s W' :=
  h s W _ none hj ⟨hb.os, hb.tape, hb.output, hb.size, fun k hk _ => hb.block k hk⟩ (fun r e => by cases e)
theorem filter_step {P : Nat → Bool} {K : List Nat} {j x : Nat} (hx : K[j]? = some x) : (K.take (j + 1)).filter P = (K.take j).filter P ++ (if P x then [x] else []) := by
  rw [List.take_add_one, hx, List.filter_append]
  congr 1
  rw [Option.toList_some, List.filter_cons]
  rfl
set_option maxRecDepth 100000 in
set_option maxHeartbeats 8000000 in
theorem fkids1_in (B : Nat) (es : List Evt) (n : Nat) (hn : 3 ≤ n) (l Bf Bn fp : Nat) (v : Value) (i : Int) (it : Array Value) (nm : ByteArray × ByteArray) (hes : es.length ≤ 999999) (hz : ∀ e ∈ es, e.at_.length ≤ 140737488351232) (J Jx : List Nat → World → Prop) (B0 : Nat) (hab : AbidesM NoMu B0 J)
    (W : World) (hr : EvsR B W v es) (hB : B ≤ W.heap.size)
    (hY : ∀ pre x W1, J pre W1 → (pre ++ [x]) <+: namedP es i nm → pre.length < 1000000 → YieldAt Fence.wide (n - 1) Try.prog l #[.int .i64 (x : Nat)] W1 fun e W' =>
      (e = .returned (.bool true) ∧ J (pre ++ [x]) W' ∧ (KeepsT fTs W1 W' ∧ Below B W1 W')) ∨ (e = .returned (.bool false) ∧ Jx (pre ++ [x]) W'))
    (hT : NkAt Bf Bn fp v i it nm W) (h0 : J [] W) :
    CallsIn Fence.wide n Try.prog 104 #[.func (.yield l) #[] #[], .pointer (some ⟨Bf, 0, none⟩), .pointer (some ⟨Bn, 0, none⟩)] W fun e' W' => (∃ v, e' = .returned v) ∧
      (J (namedP es i nm) W' ∨ (∃ pre, pre <+: namedP es i nm ∧ Jx pre W')) := by
  have hn1 : 1 ≤ n := by omega
  have hna : namedP es i nm = (kidsP es i).filter fun k => decide ((es[k]?).map Evt.n = some nm) := rfl
  obtain ⟨N, hN⟩ : ∃ N, namedP es i nm = N := ⟨_, rfl⟩
  rw [hN] at hY hna ⊢
  refine callsIn_of_wp Try.func104 rfl trivial ?_ rfl
  simp only [Try.ntmps104, List.size_toArray, List.length_cons, List.length_nil, Nat.reduceAdd, Nat.reduceSub, Array.replicate_succ, Array.replicate_zero, List.push_toArray, List.append_toArray, List.nil_append, List.cons_append]
  have c0 := hT.bf.cell
  have c1 := hT.fi.c0
  have c2 := hT.fi.c1
  have KK := Lib.hid (fun (u : World) (hu : Below W.heap.size W u) => events_Kids B es v i u (hr.below hu hB) (Nat.le_trans hB hu.size) hes hz)
  obtain ⟨avs, ⟨a, cap, rfl, -⟩, -⟩ := id hr
  have hbd : Below W.heap.size W W.drew := (Below.refl _ W).drew
  have d0 : W.drew.cell? ⟨Bf, 0, none⟩ = some (Value.pointer (some ⟨fp, 0, none⟩)) := c0
  have d1 : W.drew.cell? ⟨fp, 0, none⟩ = some (Value.slice a es.length cap) := c1
  have d2 : W.drew.cell? ⟨fp, 1, none⟩ = some (.int .i64 i) := c2
  gi_wp2_with fail
  refine wpIn_wide.2 ?_
  go_region_held3 (fun w' => w'.cell? ⟨Bf, 0, none⟩ = some (Value.pointer (some ⟨fp, 0, none⟩)) ∧ w'.cell? ⟨fp, 0, none⟩ = some (Value.slice a es.length cap) ∧ w'.cell? ⟨fp, 1, none⟩ = some (.int .i64 i)) (first | go_keep | exact ⟨d0, d1, d2⟩)
    ((go_at_call 18; refine (KK.out _ hbd).mono ?_; rintro r w1 ⟨ku, rfl, hrow, hb1⟩; obtain ⟨ka, kc, rfl, hcells⟩ := kid_row hrow; have d0 := (hb1.cell (p := ⟨Bf, 0, none⟩) hT.bf.lt).trans d0; have d1 := (hb1.cell (p := ⟨fp, 0, none⟩) hT.fi.2.lt).trans d1; have d2 := (hb1.cell (p := ⟨fp, 1, none⟩) hT.fi.2.lt).trans d2))
  clear d0 d1 d2 c0 c1 c2 KK hcells
  have hb1' : Below W.heap.size W w1 := hbd.trans hb1
  have T1 := hT.keep (KeepsT.below hb1')
  have J1 := abides_below hab h0 hb1'
  have hbB : Below B W w1 := hb1'.mono hB
  have hmem : ∀ x ∈ kidsP es i, x < es.length := fun x hx => kidsP_mem hx
  have hkl := kidsP_len es i
  obtain ⟨K, hK⟩ : ∃ K, kidsP es i = K := ⟨_, rfl⟩
  rw [hK] at hrow hmem hkl hna ⊢
  obtain ⟨m, hm⟩ : ∃ m, K.length = m := ⟨_, rfl⟩
  have HM := Lib.hid hm
  rw [hm] at hkl hrow ⊢
  have HNA := Lib.hid hna
  have HMEM := Lib.hid hmem
  obtain ⟨nn, hnn⟩ : ∃ n, es.length = n := ⟨_, rfl⟩
  have HNN := Lib.hid hnn
  rw [hnn] at hr hes hkl T1 ⊢
  have hBd := Lib.hid hB
  clear hT h0 hb1 hb1' hbd hz hna hmem hK hm hN hnn hB
  gi_wp2_with fail
  gi_loopw [16] (fun q wr => ∃ j : Nat, q = .int .i64 j ∧ j ≤ m ∧ J ((K.take j).filter fun k => decide ((es[k]?).map Evt.n = some nm)) wr ∧ NkAt Bf Bn fp (.slice a nn cap) i it nm wr ∧ wr.ownsRow W.drew.heap.size 3 1 (.slice ka m kc) m ((natC K).map (Value.int .i64)) ∧ Below B W wr) (fun q _ => m - (intOf q).toNat)
  case atStart => exact ⟨0, rfl, by omega, J1, T1, hrow, hbB⟩
  case round =>
    clear J1 T1 hrow hbB
    obtain ⟨j, rfl, hj, hJ, hT, hrow, hbl⟩ := hrel
    by_cases hlt : j < m
    · have hd := decide_eq_true (show (j : Int) < (m : Int) by omega)
      obtain ⟨x, hx⟩ : ∃ x, K[j]? = some x := ⟨_, List.getElem?_eq_getElem (by rw [HM.out]; exact hlt)⟩
      obtain ⟨kg, hkg⟩ : ∃ kg, ka = some ⟨kg, 0, none⟩ := by
        rcases hrow.2 with ⟨h1, h2⟩ | ⟨g', cp, cur, h1, -⟩
        · omega
        · injection h1 with h2
          exact ⟨g', h2⟩
      subst hkg
      have kcell : wr.cell? ⟨kg, j, none⟩ = some (.int .i64 (x : Int)) := by
        have h1 := hrow.cells (g := kg) rfl j (.int .i64 (x : Int)) (by unfold natC; rw [List.map_map, List.getElem?_map, hx]; rfl)
        rwa [addr0, Nat.zero_add] at h1
      have hxn := HMEM.out x (List.mem_of_getElem? hx)
      rw [HNN.out] at hxn
      obtain ⟨y, hy⟩ : ∃ y, es[x]? = some y := ⟨_, List.getElem?_eq_getElem (by rw [HNN.out]; exact hxn)⟩
      obtain ⟨b, off, cap', av, hv, hbB, c0, c1, c2, -⟩ := hr.get hbl (Nat.le_refl _) x y hy
      rw [HNN.out] at hv
      cases hv
      have hfs := filter_step (P := fun k => decide ((es[k]?).map Evt.n = some nm)) hx
      have d0 := hT.bf.cell
      have d1 := hT.fi.c0
      have d2 : wr.cell? ⟨Bn, 0, none⟩ = some (.string nm.1) := hT.bn.blk.cell 0 rfl
      have d3 : wr.cell? ⟨Bn, 1, none⟩ = some (.string nm.2) := hT.bn.blk.cell 1 rfl
      have HR := Lib.hid hr
      have HX := Lib.hid hx
      by_cases hnm : y.n = nm
      · rw [hy] at hfs
        rw [if_pos (by simp [hnm])] at hfs
        rw [hnm] at c1 c2
        have t1 := toL_self nm.1
        have t2 := toL_self nm.2
        have HFS := Lib.hid hfs
        have HJ := Lib.hid hJ
        have HT := Lib.hid hT
        have HRW := Lib.hid hrow
        have k0 := cell_regrown d0
        have k1 := cell_regrown d1
        have k2 := cell_regrown d2
        have k3 := cell_regrown d3
        have k4 := cell_regrown c1
        have k5 := cell_regrown c2
        clear hr hy hx hfs hJ hT hrow hnm c0
        gi_wp2_with fail
        refine wpIn_region_below_tail 13 (by kernel_rfl) (by kernel_rfl) (by kernel_rfl) ?_
        simp only [List.take_succ_cons, List.take_zero, List.drop_succ_cons, List.drop_zero]
        repeat (refine wpQuietIn_step (askedR (fun _ => trivial)) (fun K hK => ?_); go_simp; first | (refine hK _ ?_; clear hK K) | (apply Exists.intro; refine ⟨fun _ => ?_, hK _ ?_⟩; clear hK K))
        clear k0 k1 k2 k3 k4 k5 d0 d1 d2 d3 c1 c2 kcell
        refine wpQuietIn_nil ?_
        rintro w4 ⟨⟨dq, osq⟩, hw4⟩
        have hb4 : Below wr.heap.size wr w4 := by rw [hw4]; exact below_regrown wr dq osq
        clear hw4
        have hBw : B ≤ wr.heap.size := Nat.le_trans hBd.out hbl.size
        have J4 := abides_below hab HJ.out hb4
        have T4 := HT.out.keep (KeepsT.below hb4)
        have R4 := (KeepsT.below (Ts := fTs) hb4).row HRW.out (by simp [fTs])
        have hbl4 := hbl.trans (hb4.mono hBw)
        have hpl : ((K.take j).filter fun k => decide ((es[k]?).map Evt.n = some nm)).length ≤ j := Nat.le_trans (List.length_filter_le _ _) (by rw [List.length_take]; omega)
        have hYW := hY _ x w4 J4 (by rw [← HFS.out, HNA.out]; exact (List.take_prefix _ _).filter _) (by omega)
        obtain ⟨fn, tmps, assign, body, hy, hR2⟩ := hYW
        clear hY J4 HJ HT HRW hb4 hpl
        gi_wp2_with fail
        refine hR2.mono ?_
        rintro e' W3 (⟨rfl, hJ3, hk3, hb3⟩ | ⟨rfl, hJx3⟩)
        · have T5 := T4.keep hk3
          have R5 := hk3.row R4 (by simp [fTs])
          have hbl5 := hbl4.trans hb3
          clear hk3 T4 R4 hbl4 hb3 hy hR2
          gi_wp2_with fail
          go_roundw
          case rel => exact ⟨j + 1, by go_num, by omega, by rw [HFS.out]; exact hJ3, T5, R5, hbl5⟩
          case measure => simp [intOf]; omega
        · have HP := Lib.hid (show ((K.take j).filter fun k => decide ((es[k]?).map Evt.n = some nm)) ++ [x] <+: N by rw [← HFS.out, HNA.out]; exact (List.take_prefix _ _).filter _)
          clear hy hR2 T4 R4
          gi_wp2_with fail
          refine bodyPost_ret (results_none rfl _ _ _) rfl ?_
          exact ⟨⟨_, rfl⟩, .inr ⟨_, HP.out, hJx3⟩⟩
      · rw [hy] at hfs
        rw [if_neg (by simp [hnm]), List.append_nil] at hfs
        have HFS := Lib.hid hfs
        have hne := nm_ne hnm
        have HJ := Lib.hid hJ
        have HT := Lib.hid hT
        have HRW := Lib.hid hrow
        have k0 := cell_regrown d0
        have k1 := cell_regrown d1
        have k2 := cell_regrown d2
        have k3 := cell_regrown d3
        have k4 := cell_regrown c1
        have k5 := cell_regrown c2
        clear hr hy hx hfs hJ hT hrow hnm c0 hY
        rcases hne with g1 | ⟨g1, g2⟩
        all_goals
          gi_wp2_with fail
          refine wpIn_region_below_tail 13 (by kernel_rfl) (by kernel_rfl) (by kernel_rfl) ?_
          simp only [List.take_succ_cons, List.take_zero, List.drop_succ_cons, List.drop_zero]
          repeat (refine wpQuietIn_step (askedR (fun _ => trivial)) (fun K hK => ?_); go_simp; first | (refine hK _ ?_; clear hK K) | (apply Exists.intro; refine ⟨fun _ => ?_, hK _ ?_⟩; clear hK K))
          clear k0 k1 k2 k3 k4 k5 d0 d1 d2 d3 c1 c2 kcell
          refine wpQuietIn_nil ?_
          rintro w4 ⟨⟨dq, osq⟩, hw4⟩
          have hb4 : Below wr.heap.size wr w4 := by rw [hw4]; exact below_regrown wr dq osq
          clear hw4
          gi_wp2_with (refine ⟨fun f h => (by cases h), ?_⟩; apply_assumption -exfalso -symm)
          go_roundw
          case rel => exact ⟨j + 1, by go_num, by omega, by rw [HFS.out]; exact abides_below hab HJ.out hb4, HT.out.keep (KeepsT.below hb4), (KeepsT.below (Ts := fTs) hb4).row HRW.out (by simp [fTs]), hbl.trans (hb4.mono (Nat.le_trans hBd.out hbl.size))⟩
          case measure => simp [intOf]; omega
    · have hd := decide_eq_false (show ¬ (j : Int) < (m : Int) by omega)
      have hfin : ((K.take j).filter fun k => decide ((es[k]?).map Evt.n = some nm)) = N := by rw [HNA.out, List.take_of_length_le (by rw [HM.out]; omega)]
      rw [hfin] at hJ
      clear hY hr hfin hT hrow
      gi_wp2_with fail
      go_end0
      exact ⟨⟨_, rfl⟩, .inl hJ⟩
/-- .. as what an iterator owes. -/
theorem fkids_stops (B : Nat) (es : List Evt) (n : Nat) (hn : 3 ≤ n) (Bf Bn fp : Nat) (v : Value) (i : Int) (it : Array Value) (nm : ByteArray × ByteArray) (hes : es.length ≤ 999999) (hz : ∀ e ∈ es, e.at_.length ≤ 140737488351232) (w : World) (hr : EvsR B w v es) (hB : B ≤ w.heap.size) (hT : NkAt Bf Bn fp v i it nm w) :
    SeqStopsP NoMu Fence.wide n Try.prog 104 #[.pointer (some ⟨Bf, 0, none⟩), .pointer (some ⟨Bn, 0, none⟩)] (fun x : Nat => #[.int .i64 (x : Nat)]) (fun A C => KeepsT fTs A C ∧ Below B A C) (fun ys => ys = namedP es i nm) (fun pre => pre <+: namedP es i nm) 1000000 w := fun l J Jx W hW hJ hJx hY h0 => by
  have h := fkids1_in B es n hn l Bf Bn fp v i it nm hes hz J Jx W.heap.size hJ W (hr.below hW hB) (Nat.le_trans hB hW.size) hY (hT.keep (KeepsT.below hW)) h0
  refine h.mono ?_
  rintro e' W' ⟨hv, h | h⟩
  · exact ⟨hv, .inl ⟨_, rfl, h⟩⟩
  · exact ⟨hv, .inr h⟩
theorem finder_kids_in (F : Fence) (n : Nat) (h27 : F.fn 71) (hro : F.round = none) (q : Option Addr) (nm : ByteArray × ByteArray) (w : World) :
    CallsIn F n Try.prog 71 #[.pointer q, .agg #[.string nm.1, .string nm.2]] w fun e w' => e = .returned (.func (.func 104) #[] #[.pointer (some ⟨w.heap.size, 0, none⟩), .pointer (some ⟨w.heap.size + 1, 0, none⟩)]) ∧ w' = (w.alloc (.cells #[.pointer q] 89)).alloc (.cells #[.string nm.1, .string nm.2] 24) := by
  refine callsIn_of_wp Try.func71 rfl h27 ?_ hro
  simp only [Try.ntmps71, List.size_toArray, List.length_cons, List.length_nil, Nat.reduceAdd, Nat.reduceSub, Array.replicate_succ, Array.replicate_zero, List.push_toArray, List.append_toArray, List.nil_append, List.cons_append]
  gi_wp2
  go_ret
  exact ⟨by simp, rfl⟩
end Go.Proofs.Yteefopeclfojiaa
/- 
  Layer 24: the walk of the finder's text.
 -/
namespace Go.Proofs.Yteefopeclfojiaa
open Go.RowKit
attribute [local go_sem] Oper.semAt_some
/-- the text of the first child of a name. -/
def txtOf (es : List Evt) (i : Int) (nm : ByteArray × ByteArray) : ByteArray := match fstP es i nm with
  | none => ⟨#[]⟩
  | some k => strOfNums (textP es k)
theorem named_fst (es : List Evt) (i : Int) (nm : ByteArray × ByteArray) : (namedP es i nm).head? = fstP es i nm := by unfold namedP fstP; rw [List.head?_filter]
theorem pre_one {x : Nat} {l : List Nat} (h : ([] ++ [x]) <+: l) : l.head? = some x := by
  obtain ⟨t, rfl⟩ := h
  rfl
theorem named_mem {es : List Evt} {i : Int} {nm : ByteArray × ByteArray} {x : Nat} (h : x ∈ namedP es i nm) : x < es.length ∧ (es[x]?).map Evt.n = some nm := by
  unfold namedP at h
  obtain ⟨h1, h2⟩ := List.mem_filter.1 h
  exact ⟨kidsP_mem h1, by simpa using h2⟩
theorem named_len (es : List Evt) (i : Int) (nm : ByteArray × ByteArray) : (namedP es i nm).length ≤ es.length := Nat.le_trans (List.length_filter_le _ _) (kidsP_len es i)
/-- what a walk over a finder's element is told of its events. -/
structure FEv (B : Nat) (es : List Evt) (v : Value) (w : World) : Prop where
  r : EvsR B w v es
  hB : B ≤ w.heap.size
  n : es.length ≤ 9999
  z : ∀ e ∈ es, e.at_.length ≤ 1000000
  t : (txsL es).length < 140737488355329
  c : CapR v es.length
theorem FEv.below {B : Nat} {es : List Evt} {v : Value} {w w' : World} (h : FEv B es v w) (hb : Below w.heap.size w w') : FEv B es v w' := ⟨h.r.below hb h.hB, Nat.le_trans h.hB hb.size, h.n, h.z, h.t, h.c⟩
theorem FEv.z2 {B : Nat} {es : List Evt} {v : Value} {w : World} (h : FEv B es v w) : ∀ e ∈ es, e.at_.length ≤ 140737488351232 := fun e he => by have := h.z e he; omega
theorem FinAt.below {W W' : World} {fp : Nat} {l : Value} {i : Int} {it : Array Value} (h : FinAt W fp l i it) (hb : Below W.heap.size W W') : FinAt W' fp l i it := ⟨h.1, h.2.below hb h.2.lt⟩
theorem FinAt.low {W W' : World} {fp : Nat} {l : Value} {i : Int} {it : Array Value} (h : FinAt W fp l i it) {C : Nat} (hb : Below C W W') (hC : fp < C) : FinAt W' fp l i it := ⟨h.1, h.2.below hb hC⟩
theorem below_putObj {W : World} {B l : Nat} {o o' : Obj} (hl : B ≤ l) (_ho : W.heap[l]? = some o) (_hc : o.isCells = false) : Below B W (W.putObj l o') :=
  ⟨rfl, rfl, rfl, by simp, fun k hk => World.putObj_heap_other (by omega)⟩
/-- what lasts within the range of text. -/
structure TxJ (fp : Nat) (w : World) (s : ByteArray) (W : World) : Prop where
  bf : Boxed W w.heap.size 89 (.pointer (some ⟨fp, 0, none⟩))
  rs : Boxed W (w.heap.size + 1 + 1) 9 (.string s)
  be : Below w.heap.size w W
  sz : w.heap.size + 3 ≤ W.heap.size
theorem TxJ.turn {fp : Nat} {w : World} {s : ByteArray} {W W' : World} (h : TxJ fp w s W) (hk : KeepsB [w.heap.size, w.heap.size + 1 + 1] W W') (hb : Below w.heap.size W W') : TxJ fp w s W' :=
  ⟨((hk _ (by simp) h.bf.lt).1).trans h.bf, ((hk _ (by simp) h.rs.lt).1).trans h.rs, h.be.trans hb, Nat.le_trans h.sz hb.size⟩
theorem TxJ.up {fp : Nat} {w : World} {s : ByteArray} {W W' : World} (h : TxJ fp w s W) (hb : Below W.heap.size W W') : TxJ fp w s W' := h.turn (KeepsB.below hb) (hb.mono h.be.size)
theorem txJ_turns {fp : Nat} {w : World} {s : ByteArray} {B : Nat} (hB : w.heap.size + 3 ≤ B) {X Y : World} (h : TxJ fp w s X) (ht : Turns NoMu B X Y) : TxJ fp w s Y := by
  have hbl := ht.below (C := w.heap.size) (by omega) h.be.size
  obtain ⟨row, hg, hrow⟩ := ht
  refine h.turn (fun k hk hl => ⟨hg.block k hl (fun e => ?_), hg.size⟩) hbl
  have := (hrow k e.symm).1
  simp at hk
  omega
def TxI (fp : Nat) (w : World) (pre : List Nat) (W : World) : Prop := TxJ fp w ⟨#[]⟩ W ∧ pre = []
def TxX (es : List Evt) (fp : Nat) (w : World) (c : Code) (pre : List Nat) (W : World) : Prop := c = .ret ∧ ∃ x : Nat, pre = [x] ∧ TxJ fp w (strOfNums (textP es x)) W
set_option maxRecDepth 100000 in
set_option maxHeartbeats 8000000 in
theorem finder_text (B : Nat) (es : List Evt) (v : Value) (fp : Nat) (i : Int) (it : Array Value) (nm : ByteArray × ByteArray) (w : World) (hE : FEv B es v w) (hF : FinAt w fp v i it) :
    Calls Try.prog 109 #[.pointer (some ⟨fp, 0, none⟩), .agg #[.string nm.1, .string nm.2]] w fun r w' => r = .returned (.string (txtOf es i nm)) ∧ Below w.heap.size w w' := by
  refine (callsIn_wide (n := 6)).1 ?_
  refine callsIn_of_wp_marks Try.func109 rfl trivial ?_ rfl
  simp only [Try.ntmps109, List.size_toArray, List.length_cons, List.length_nil, Nat.reduceAdd, Nat.reduceSub, Array.replicate_succ, Array.replicate_zero, List.push_toArray, List.append_toArray, List.nil_append, List.cons_append]
  obtain ⟨avs, ⟨a, cap, rfl, -⟩, -⟩ := id hE.r
  have hfl := hF.2.lt
  have hb0 : Below w.heap.size w (((w.alloc (.cells #[.pointer (some ⟨fp, 0, none⟩)] 89)).alloc (.cells #[.string nm.1, .string nm.2] 24)).alloc (.cells #[.string ⟨#[]⟩] 9)) :=
    (((Below.refl w.heap.size w).alloc (Nat.le_refl _) _).alloc (by simp) _).alloc (by simp; omega) _
  have J0 : TxJ fp w ⟨#[]⟩ (((w.alloc (.cells #[.pointer (some ⟨fp, 0, none⟩)] 89)).alloc (.cells #[.string nm.1, .string nm.2] 24)).alloc (.cells #[.string ⟨#[]⟩] 9)) := by
    have h2 := Boxed.new ((w.alloc (.cells #[.pointer (some ⟨fp, 0, none⟩)] 89)).alloc (.cells #[.string nm.1, .string nm.2] 24)) 9 (.string ⟨#[]⟩)
    simp only [World.size_alloc] at h2
    exact ⟨((Boxed.new w _ _).alloc _).alloc _, h2, hb0, by simp⟩
  have bN : RowAt (((w.alloc (.cells #[.pointer (some ⟨fp, 0, none⟩)] 89)).alloc (.cells #[.string nm.1, .string nm.2] 24)).alloc (.cells #[.string ⟨#[]⟩] 9)) (w.heap.size + 1) 24 #[.string nm.1, .string nm.2] := by
    have h2 := RowAt.new (w.alloc (.cells #[.pointer (some ⟨fp, 0, none⟩)] 89)) #[.string nm.1, .string nm.2] 24
    simp only [World.size_alloc] at h2
    exact h2.alloc _
  generalize hw1 : ((w.alloc (.cells #[.pointer (some ⟨fp, 0, none⟩)] 89)).alloc (.cells #[.string nm.1, .string nm.2] 24)).alloc (.cells #[.string ⟨#[]⟩] 9) = w1 at J0 bN hb0
  have HW1 := Lib.hid hw1
  clear hw1
  have c0 := J0.bf.cell
  have n0 : w1.cell? ⟨w.heap.size + 1, 0, none⟩ = some (.string nm.1) := bN.blk.cell 0 rfl
  have n1 : w1.cell? ⟨w.heap.size + 1, 1, none⟩ = some (.string nm.2) := bN.blk.cell 1 rfl
  rw [← HW1.out] at c0 n0 n1
  gi_wp2_with fail
  rw [HW1.out]
  refine ⟨trivial, ?_⟩
  refine (finder_kids_in Fence.wide _ trivial rfl _ nm _).mono ?_
  rintro e w2 ⟨rfl, rfl⟩
  have hb2 : Below w1.heap.size w1 ((w1.alloc (.cells #[.pointer (some ⟨fp, 0, none⟩)] 89)).alloc (.cells #[.string nm.1, .string nm.2] 24)) := ((Below.refl w1.heap.size w1).alloc (Nat.le_refl _) _).alloc (by simp) _
  have hT : NkAt w1.heap.size (w1.heap.size + 1) fp (.slice a es.length cap) i it nm ((w1.alloc (.cells #[.pointer (some ⟨fp, 0, none⟩)] 89)).alloc (.cells #[.string nm.1, .string nm.2] 24)) := by
    have h2 := RowAt.new (w1.alloc (.cells #[.pointer (some ⟨fp, 0, none⟩)] 89)) #[.string nm.1, .string nm.2] 24
    rw [World.size_alloc] at h2
    exact ⟨(Boxed.new w1 _ _).alloc _, h2, hF.1, ((hF.2.below hb0 hfl).alloc _).alloc _⟩
  have J2 := J0.up hb2
  have hE2 := (hE.below hb0).below hb2
  have hs3 : ((w1.alloc (.cells #[.pointer (some ⟨fp, 0, none⟩)] 89)).alloc (.cells #[.string nm.1, .string nm.2] 24)).heap.size = w1.heap.size + 2 := by simp
  have hs2 := J0.sz
  obtain ⟨w3, hw3⟩ : ∃ x, ((w1.alloc (.cells #[.pointer (some ⟨fp, 0, none⟩)] 89)).alloc (.cells #[.string nm.1, .string nm.2] 24)) = x := ⟨_, rfl⟩
  rw [hw3] at hT J2 hs3 hE2 ⊢
  have FF := Lib.hid (fun (u : World) (hu : Below w.heap.size w u) => hF.low hu hfl)
  have FE := Lib.hid (fun (u : World) (hu : Below w.heap.size w u) => hE.below hu)
  clear hw3 hb2 J0 hb0 bN c0 n0 n1 HW1 hE hF
  obtain ⟨q, hq⟩ : ∃ q, w1.heap.size = q := ⟨_, rfl⟩
  rw [hq] at hT hs3 hs2 ⊢
  clear hq
  gi_wp2_with fail
  refine wpIn_rangeFunc_ownP NoMu rfl (by omega) (gf := 104) (lb := #[.pointer (some ⟨q, 0, none⟩), .pointer (some ⟨q + 1, 0, none⟩)]) rfl trivial (enters_of Try.func104 (by kernel_rfl) rfl)
    (fkids_stops B es _ (by omega) q (q + 1) fp _ i it nm (by have := hE2.n; omega) hE2.z2 w3 hE2.r hE2.hB hT) (fun h k => ⟨h.1.trans k.1, h.2.trans k.2⟩) (fun W l o o' h1 h2 h3 _ => ⟨KeepsT.putObj h2 h3, below_putObj (Nat.le_trans hE2.hB h1) h2 h3⟩) (Below.refl _ _) (fun _ => rfl)
    (TxI fp w) (TxX es fp w) (fun _ _ _ h ht => ⟨txJ_turns (by omega) h.1 ht, h.2⟩) (fun c pre X Y h ht => by obtain ⟨hc, x, hx, hj⟩ := h; exact ⟨hc, x, hx, txJ_turns (by omega) hj ht⟩)
    ⟨J2, rfl⟩
    (fun x a' W => a' = { tmps := #[.pointer (some ⟨fp, 0, none⟩), .agg #[.string nm.1, .string nm.2], .pointer (some ⟨w.heap.size, 0, none⟩), .pointer (some ⟨w.heap.size + 1, 0, none⟩), .pointer (some ⟨w.heap.size + 1 + 1, 0, none⟩), .int .i64 (x : Nat), .pointer (some ⟨fp, 0, none⟩), .agg #[.string nm.1, .string nm.2], .func (.func 104) #[] #[.pointer (some ⟨q, 0, none⟩), .pointer (some ⟨q + 1, 0, none⟩)], .int .i64 (x : Nat), undef, undef, undef, undef, undef, undef], defers := [] })
    (fun x a' _ _ _ _ h _ _ => h) ?assign ?body ?done ?stop
  case assign =>
    rintro l pre x W K hI hK
    gi_wp2
    exact hK _ _ (KeepsFrom.refl _ _) ⟨⟨Nat.le_refl _, fun k c T fz _ _ => rfl⟩, Below.refl _ _⟩ hI rfl
  case body =>
    rintro l pre x a' W hl ⟨J, rfl⟩ rfl hsp hlen
    have d0 := J.bf.cell
    have hFW := FF.out W J.be
    have d1 := hFW.c0
    have hEW := FE.out W J.be
    have HT := Lib.hid (events_Text B es (.slice a es.length cap) x W hEW.r hEW.hB (by have := hEW.n; omega) hEW.z2 hEW.t hEW.c)
    have HJ := Lib.hid J
    clear hFW hEW J
    gi_wp2_with (refine ⟨trivial, ?_⟩; gi_at_call 21; refine (CallsIn.inRound l (callsIn_wide.2 HT.out)).mono ?_; rintro e w4 ⟨rfl, hb4⟩; have J4 := HJ.out.up hb4; have x1 := J4.rs.cell; have x3 := J4.rs.frozen)
    refine ⟨((keepsOthers_belowQ hb4).trans (KeepsOthers.setCell _ _ _)).from _, rfl, x, rfl, ?_⟩
    exact ⟨J4.bf.other (by omega) _, J4.rs.set _, J4.be.setCell (p := ⟨w.heap.size + 1 + 1, 0, none⟩) (by show _ ≤ w.heap.size + 1 + 1; omega) _, by simp; exact J4.sz⟩
  case done =>
    rintro D ys W hD hys ⟨J, rfl⟩ hK
    have HP := Lib.hid (show txtOf es i nm = ⟨#[]⟩ by unfold txtOf; rw [← named_fst, ← hys]; rfl)
    have x1 := J.rs.cell
    have x3 := J.rs.frozen
    have HO := Lib.hid (J.rs.set (.string ⟨#[]⟩))
    have HKp := Lib.hid ((KeepsOthers.setCell W ⟨w.heap.size + 1 + 1, 0, none⟩ (.string ⟨#[]⟩)).same D _ hK rfl)
    have HBl := Lib.hid (J.be.setCell (p := ⟨w.heap.size + 1 + 1, 0, none⟩) (by show _ ≤ w.heap.size + 1 + 1; omega) (.string ⟨#[]⟩))
    gi_wp2_with fail
    have hK' := HKp.out
    refine ⟨by simp, .inl ⟨_, _, rfl, run_takeDeferred hK', ?_⟩⟩
    have hc5 := cell_kept HO.out.cell (grownBy_putObj' _ D (.deferred none)) (fun r e => by cases e; exact ⟨_, hK', rfl⟩)
    refine ⟨.string ⟨#[]⟩, ?_, by rw [HP.out], HBl.out.trans (belowK_b (w := w) (Nat.le_refl _) _ D _ _ (by omega) hK' rfl rfl)⟩
    simp [results, Try.f109, go_sem, hc5]
  case stop =>
    rintro D c pre W hD ht ⟨rfl, x, rfl, J⟩ hK
    have HP := Lib.hid (show txtOf es i nm = strOfNums (textP es x) by unfold txtOf; rw [← named_fst, pre_one ht])
    gi_wp2_with fail
    refine ⟨by simp, .inl ⟨_, _, rfl, run_takeDeferred hK, ?_⟩⟩
    have hc5 := cell_kept J.rs.cell (grownBy_putObj' _ D (.deferred none)) (fun r e => by cases e; exact ⟨_, hK, rfl⟩)
    refine ⟨.string (strOfNums (textP es x)), ?_, by rw [HP.out], J.be.trans (belowK_b (w := w) (Nat.le_refl _) _ D _ _ (by omega) hK rfl rfl)⟩
    simp [results, Try.f109, go_sem, hc5]
end Go.Proofs.Yteefopeclfojiaa
/- 
  Layer 24: names in Atom's and Dublin Core's namespaces.
 -/
namespace Go.Proofs.Yteefopeclfojiaa
open Go.RowKit
def spA : ByteArray := ⟨#[104, 116, 116, 112, 58, 47, 47, 119, 119, 119, 46, 119, 51, 46, 111, 114, 103, 47, 50, 48, 48, 53, 47, 65, 116, 111, 109]⟩
def spC : ByteArray := ⟨#[104, 116, 116, 112, 58, 47, 47, 112, 117, 114, 108, 46, 111, 114, 103, 47, 100, 99, 47, 101, 108, 101, 109, 101, 110, 116, 115, 47, 49, 46, 49, 47]⟩
theorem atom_Name (s : ByteArray) (w : World) : Calls Try.prog 31 #[.string s] w fun r w' => r = .returned (.agg #[.string spA, .string s]) ∧ Below w.heap.size w w' := by
  have hb := (Below.refl w.heap.size w).alloc (Nat.le_refl _) (.cells #[.string ⟨#[104, 116, 116, 112, 58, 47, 47, 119, 119, 119, 46, 119, 51, 46, 111, 114, 103, 47, 50, 48, 48, 53, 47, 65, 116, 111, 109]⟩, .string s] 24)
  have bk := BlkAt.new w #[.string ⟨#[104, 116, 116, 112, 58, 47, 47, 119, 119, 119, 46, 119, 51, 46, 111, 114, 103, 47, 50, 48, 48, 53, 47, 65, 116, 111, 109]⟩, .string s] 24
  go_enter Try.func31, Try.ntmps31
  go_wp2_with fail
  exact bodyPost_ret (results_cell1 rfl _ _ _ _ _ rfl bk Try.underlying24 rfl (by kernel_rfl)) rfl ⟨rfl, hb⟩
theorem atom_Core (s : ByteArray) (w : World) : Calls Try.prog 33 #[.string s] w fun r w' => r = .returned (.agg #[.string spC, .string s]) ∧ Below w.heap.size w w' := by
  have hb := (Below.refl w.heap.size w).alloc (Nat.le_refl _) (.cells #[.string ⟨#[104, 116, 116, 112, 58, 47, 47, 112, 117, 114, 108, 46, 111, 114, 103, 47, 100, 99, 47, 101, 108, 101, 109, 101, 110, 116, 115, 47, 49, 46, 49, 47]⟩, .string s] 24)
  have bk := BlkAt.new w #[.string ⟨#[104, 116, 116, 112, 58, 47, 47, 112, 117, 114, 108, 46, 111, 114, 103, 47, 100, 99, 47, 101, 108, 101, 109, 101, 110, 116, 115, 47, 49, 46, 49, 47]⟩, .string s] 24
  go_enter Try.func33, Try.ntmps33
  go_wp2_with fail
  exact bodyPost_ret (results_cell1 rfl _ _ _ _ _ rfl bk Try.underlying24 rfl (by kernel_rfl)) rfl ⟨rfl, hb⟩
theorem ref24_Name (s : ByteArray) (w : World) : Calls Try.prog 32 #[.string s] w fun r w' => r = .returned (.agg #[.string spA, .string s]) ∧ Below w.heap.size w w' := by
  have hb := (Below.refl w.heap.size w).alloc (Nat.le_refl _) (.cells #[.string ⟨#[104, 116, 116, 112, 58, 47, 47, 119, 119, 119, 46, 119, 51, 46, 111, 114, 103, 47, 50, 48, 48, 53, 47, 65, 116, 111, 109]⟩, .string s] 24)
  have bk := BlkAt.new w #[.string ⟨#[104, 116, 116, 112, 58, 47, 47, 119, 119, 119, 46, 119, 51, 46, 111, 114, 103, 47, 50, 48, 48, 53, 47, 65, 116, 111, 109]⟩, .string s] 24
  go_enter Try.func32, Try.ntmps32
  go_wp2_with fail
  exact bodyPost_ret (results_cell1 rfl _ _ _ _ _ rfl bk Try.underlying24 rfl (by kernel_rfl)) rfl ⟨rfl, hb⟩
theorem ref24_Core (s : ByteArray) (w : World) : Calls Try.prog 34 #[.string s] w fun r w' => r = .returned (.agg #[.string spC, .string s]) ∧ Below w.heap.size w w' := by
  have hb := (Below.refl w.heap.size w).alloc (Nat.le_refl _) (.cells #[.string ⟨#[104, 116, 116, 112, 58, 47, 47, 112, 117, 114, 108, 46, 111, 114, 103, 47, 100, 99, 47, 101, 108, 101, 109, 101, 110, 116, 115, 47, 49, 46, 49, 47]⟩, .string s] 24)
  have bk := BlkAt.new w #[.string ⟨#[104, 116, 116, 112, 58, 47, 47, 112, 117, 114, 108, 46, 111, 114, 103, 47, 100, 99, 47, 101, 108, 101, 109, 101, 110, 116, 115, 47, 49, 46, 49, 47]⟩, .string s] 24
  go_enter Try.func34, Try.ntmps34
  go_wp2_with fail
  exact bodyPost_ret (results_cell1 rfl _ _ _ _ _ rfl bk Try.underlying24 rfl (by kernel_rfl)) rfl ⟨rfl, hb⟩
end Go.Proofs.Yteefopeclfojiaa
/- 
  Layer 24: the walk of the finder's link.
 -/
namespace Go.Proofs.Yteefopeclfojiaa
open Go.RowKit
attribute [local go_sem] Oper.semAt_some
/-- a link's address, of its rel and its href, if it is one that is looked for. -/
def linkM (r h : Option ByteArray) : Option ByteArray := match h with
  | none => none
  | some h => match r with
    | none => some h
    | some r => if r = ⟨#[97, 108, 116, 101, 114, 110, 97, 116, 101]⟩ then some h else none
def linkK (es : List Evt) (k : Nat) : Option ByteArray := linkM (attrP es k (⟨#[]⟩, ⟨#[114, 101, 108]⟩)) (attrP es k (⟨#[]⟩, ⟨#[104, 114, 101, 102]⟩))
/-- the first link's. -/
def linkP (es : List Evt) (i : Int) : ByteArray := ((namedP es i (spA, ⟨#[108, 105, 110, 107]⟩)).findSome? (linkK es)).getD ⟨#[]⟩
theorem some_pre {α β : Type} {f : α → Option β} {pre : List α} {x : α} {h : β} {l : List α} (hp : (pre ++ [x]) <+: l) (h0 : ∀ k ∈ pre, f k = none) (hx : f x = some h) : l.findSome? f = some h := by
  obtain ⟨t, rfl⟩ := hp
  rw [List.append_assoc, List.findSome?_append, List.findSome?_eq_none_iff.2 h0, List.singleton_append, List.findSome?_cons, hx]
  rfl
theorem str_eq {a b : ByteArray} (h : (a.toList == b.toList) = true) : a = b := ba_ext (by simpa using h)
theorem AttrS.eq {u w' : World} {R : Option ByteArray} {r : Ending} (h : AttrS u w' R r) : r = .returned (.tuple #[.string (R.getD ⟨#[]⟩), .bool R.isSome]) ∧ Below u.heap.size u w' := by
  obtain ⟨hb, hr⟩ := h
  cases R with
  | none => exact ⟨hr, hb⟩
  | some s => exact ⟨hr, hb⟩
/-- what lasts within the range of link. -/
structure LkJ (fp : Nat) (w : World) (s : ByteArray) (W : World) : Prop where
  bf : Boxed W w.heap.size 89 (.pointer (some ⟨fp, 0, none⟩))
  rs : Boxed W (w.heap.size + 1) 9 (.string s)
  be : Below w.heap.size w W
  sz : w.heap.size + 2 ≤ W.heap.size
theorem LkJ.turn {fp : Nat} {w : World} {s : ByteArray} {W W' : World} (h : LkJ fp w s W) (hk : KeepsB [w.heap.size, w.heap.size + 1] W W') (hb : Below w.heap.size W W') : LkJ fp w s W' :=
  ⟨((hk _ (by simp) h.bf.lt).1).trans h.bf, ((hk _ (by simp) h.rs.lt).1).trans h.rs, h.be.trans hb, Nat.le_trans h.sz hb.size⟩
theorem LkJ.up {fp : Nat} {w : World} {s : ByteArray} {W W' : World} (h : LkJ fp w s W) (hb : Below W.heap.size W W') : LkJ fp w s W' := h.turn (KeepsB.below hb) (hb.mono h.be.size)
theorem lkJ_turns {fp : Nat} {w : World} {s : ByteArray} {B : Nat} (hB : w.heap.size + 2 ≤ B) {X Y : World} (h : LkJ fp w s X) (ht : Turns NoMu B X Y) : LkJ fp w s Y := by
  have hbl := ht.below (C := w.heap.size) (by omega) h.be.size
  obtain ⟨row, hg, hrow⟩ := ht
  refine h.turn (fun k hk hl => ⟨hg.block k hl (fun e => ?_), hg.size⟩) hbl
  have := (hrow k e.symm).1
  simp at hk
  omega
def LkI (es : List Evt) (fp : Nat) (w : World) (pre : List Nat) (W : World) : Prop := LkJ fp w ⟨#[]⟩ W ∧ ∀ k ∈ pre, linkK es k = none
def LkX (es : List Evt) (fp : Nat) (w : World) (c : Code) (pre : List Nat) (W : World) : Prop := c = .ret ∧ ∃ (ini : List Nat) (x : Nat) (h : ByteArray), pre = ini ++ [x] ∧ (∀ k ∈ ini, linkK es k = none) ∧ linkK es x = some h ∧ LkJ fp w h W
set_option maxRecDepth 100000 in
set_option maxHeartbeats 8000000 in
theorem finder_link (B : Nat) (es : List Evt) (v : Value) (fp : Nat) (i : Int) (it : Array Value) (w : World) (hE : FEv B es v w) (hF : FinAt w fp v i it) :
    Calls Try.prog 79 #[.pointer (some ⟨fp, 0, none⟩)] w fun r w' => r = .returned (.string (linkP es i)) ∧ Below w.heap.size w w' := by
  refine (callsIn_wide (n := 6)).1 ?_
  refine callsIn_of_wp_marks Try.func79 rfl trivial ?_ rfl
  simp only [Try.ntmps79, List.size_toArray, List.length_cons, List.length_nil, Nat.reduceAdd, Nat.reduceSub, Array.replicate_succ, Array.replicate_zero, List.push_toArray, List.append_toArray, List.nil_append, List.cons_append]
  obtain ⟨avs, ⟨a, cap, rfl, -⟩, -⟩ := id hE.r
  have hfl := hF.2.lt
  have hb0 : Below w.heap.size w ((w.alloc (.cells #[.pointer (some ⟨fp, 0, none⟩)] 89)).alloc (.cells #[.string ⟨#[]⟩] 9)) :=
    ((Below.refl w.heap.size w).alloc (Nat.le_refl _) _).alloc (by simp) _
  have J0 : LkJ fp w ⟨#[]⟩ ((w.alloc (.cells #[.pointer (some ⟨fp, 0, none⟩)] 89)).alloc (.cells #[.string ⟨#[]⟩] 9)) := by
    have h2 := Boxed.new (w.alloc (.cells #[.pointer (some ⟨fp, 0, none⟩)] 89)) 9 (.string ⟨#[]⟩)
    rw [World.size_alloc] at h2
    exact ⟨(Boxed.new w _ _).alloc _, h2, hb0, by simp⟩
  have FF := Lib.hid (fun (u : World) (hu : Below w.heap.size w u) => hF.low hu hfl)
  have FE := Lib.hid (fun (u : World) (hu : Below w.heap.size w u) => hE.below hu)
  have HN := Lib.hid atom_Name
  gi_wp2_with fail
  generalize (w.alloc (.cells #[.pointer (some ⟨fp, 0, none⟩)] 89)).alloc (.cells #[.string ⟨#[]⟩] 9) = w1 at J0 hb0 ⊢
  have c0 : w1.drew.cell? ⟨w.heap.size, 0, none⟩ = some (.pointer (some ⟨fp, 0, none⟩)) := J0.bf.cell
  replace J0 : LkJ fp w ⟨#[]⟩ w1.drew := J0.up (Below.refl w1.heap.size w1).drew
  clear hE hF hb0
  refine wpIn_wide.2 ?_
  go_region_held3 (fun w' => w'.cell? ⟨w.heap.size, 0, none⟩ = some (.pointer (some ⟨fp, 0, none⟩))) (first | go_keep | exact c0) (first
    | (go_at_call 31; refine (HN.out _ _).mono ?_; rintro e w2 ⟨rfl, hb⟩; have J0 := J0.up hb; have c0 := J0.bf.cell)
    | (go_at_call 71; refine (callsIn_wide.1 (finder_kids_in Fence.wide 5 trivial rfl _ (spA, ⟨#[108, 105, 110, 107]⟩) _)).mono ?_; rintro e w3 ⟨rfl, rfl⟩))
  clear c0
  have hT : NkAt w2.heap.size (w2.heap.size + 1) fp (.slice a es.length cap) i it (spA, ⟨#[108, 105, 110, 107]⟩) ((w2.alloc (.cells #[.pointer (some ⟨fp, 0, none⟩)] 89)).alloc (.cells #[.string spA, .string ⟨#[108, 105, 110, 107]⟩] 24)) := by
    have h2 := RowAt.new (w2.alloc (.cells #[.pointer (some ⟨fp, 0, none⟩)] 89)) #[.string spA, .string ⟨#[108, 105, 110, 107]⟩] 24
    rw [World.size_alloc] at h2
    have hF2 := FF.out w2 J0.be
    exact ⟨(Boxed.new w2 _ _).alloc _, h2, hF2.1, (hF2.2.alloc _).alloc _⟩
  have hb2 : Below w2.heap.size w2 ((w2.alloc (.cells #[.pointer (some ⟨fp, 0, none⟩)] 89)).alloc (.cells #[.string spA, .string ⟨#[108, 105, 110, 107]⟩] 24)) := ((Below.refl w2.heap.size w2).alloc (Nat.le_refl _) _).alloc (by simp) _
  have J2 := J0.up hb2
  have hE2 := FE.out _ J2.be
  have hs3 : ((w2.alloc (.cells #[.pointer (some ⟨fp, 0, none⟩)] 89)).alloc (.cells #[.string spA, .string ⟨#[108, 105, 110, 107]⟩] 24)).heap.size = w2.heap.size + 2 := by simp
  have hs2 := J0.sz
  obtain ⟨w3, hw3⟩ : ∃ x, ((w2.alloc (.cells #[.pointer (some ⟨fp, 0, none⟩)] 89)).alloc (.cells #[.string spA, .string ⟨#[108, 105, 110, 107]⟩] 24)) = x := ⟨_, rfl⟩
  rw [hw3] at hT J2 hs3 hE2 ⊢
  clear hw3 hb2 J0 hb
  obtain ⟨q, hq⟩ : ∃ q, w2.heap.size = q := ⟨_, rfl⟩
  rw [hq] at hT hs3 hs2 ⊢
  clear hq
  gi_wp2_with fail
  refine wpIn_rangeFunc_ownP NoMu rfl (by omega) (gf := 104) (lb := #[.pointer (some ⟨q, 0, none⟩), .pointer (some ⟨q + 1, 0, none⟩)]) rfl trivial (enters_of Try.func104 (by kernel_rfl) rfl)
    (fkids_stops B es _ (by omega) q (q + 1) fp _ i it (spA, ⟨#[108, 105, 110, 107]⟩) (by have := hE2.n; omega) hE2.z2 w3 hE2.r hE2.hB hT) (fun h k => ⟨h.1.trans k.1, h.2.trans k.2⟩) (fun W l o o' h1 h2 h3 _ => ⟨KeepsT.putObj h2 h3, below_putObj (Nat.le_trans hE2.hB h1) h2 h3⟩) (Below.refl _ _) (fun _ => rfl)
    (LkI es fp w) (LkX es fp w) (fun _ _ _ h ht => ⟨lkJ_turns (by omega) h.1 ht, h.2⟩) (fun c pre X Y h ht => by obtain ⟨hc, ini, x, hh, h1, h2, h3, hj⟩ := h; exact ⟨hc, ini, x, hh, h1, h2, h3, lkJ_turns (by omega) hj ht⟩)
    ⟨J2, fun k hk => by cases hk⟩
    (fun x a' W => a' = { tmps := #[.pointer (some ⟨fp, 0, none⟩), .pointer (some ⟨w.heap.size, 0, none⟩), .pointer (some ⟨w.heap.size + 1, 0, none⟩), .int .i64 (x : Nat), undef, undef, undef, undef, .pointer (some ⟨fp, 0, none⟩), .agg #[.string spA, .string ⟨#[108, 105, 110, 107]⟩], .func (.func 104) #[] #[.pointer (some ⟨q, 0, none⟩), .pointer (some ⟨q + 1, 0, none⟩)], .int .i64 (x : Nat), undef, undef, undef, undef, undef, undef, undef, undef, undef, undef, undef, undef, undef, undef, undef, undef, undef, undef, undef, undef, undef, undef, undef, undef, undef, undef, undef, undef, undef, undef], defers := [] })
    (fun x a' _ _ _ _ h _ _ => h) ?assign ?body ?done ?stop
  case assign =>
    rintro l pre x W K hI hK
    gi_wp2
    exact hK _ _ (KeepsFrom.refl _ _) ⟨⟨Nat.le_refl _, fun k c T fz _ _ => rfl⟩, Below.refl _ _⟩ hI rfl
  case body =>
    rintro l pre x a' W hl ⟨J, hpre⟩ rfl hsp hlen
    have d0 := J.bf.cell
    have d1 := (FF.out W J.be).c0
    have HB1 := (fun (u : World) (hu : Below w.heap.size w u) => events_Attr B es (.slice a es.length cap) x (⟨#[]⟩, ⟨#[114, 101, 108]⟩) u (FE.out u hu).r (FE.out u hu).hB (by have := (FE.out u hu).n; omega) (FE.out u hu).z)
    have HB2 := (fun (u : World) (hu : Below w.heap.size w u) => events_Attr B es (.slice a es.length cap) x (⟨#[]⟩, ⟨#[104, 114, 101, 102]⟩) u (FE.out u hu).r (FE.out u hu).hB (by have := (FE.out u hu).n; omega) (FE.out u hu).z)
    have HPRE := Lib.hid hpre
    have HJ := Lib.hid J
    obtain ⟨R1, hR1⟩ : ∃ r, attrP es x (⟨#[]⟩, ⟨#[114, 101, 108]⟩) = r := ⟨_, rfl⟩
    obtain ⟨R2, hR2⟩ : ∃ r, attrP es x (⟨#[]⟩, ⟨#[104, 114, 101, 102]⟩) = r := ⟨_, rfl⟩
    have hlk : linkK es x = linkM R1 R2 := by unfold linkK; rw [hR1, hR2]
    rw [hR1] at HB1
    rw [hR2] at HB2
    have HA1 := Lib.hid (fun u hu => ((HB1 u hu).mono fun _ _ h => h.eq))
    have HA2 := Lib.hid (fun u hu => ((HB2 u hu).mono fun _ _ h => h.eq))
    clear HB1 HB2 hR1 hR2 J hpre
    cases R2 with
    | none =>
      have HL := Lib.hid (show linkK es x = none from hlk)
      have e1 : (none : Option ByteArray).isSome = false := rfl
      have e2 : (none : Option ByteArray).getD ⟨#[]⟩ = ⟨#[]⟩ := rfl
      rw [e1, e2] at HA2
      obtain ⟨b1, hb1⟩ : ∃ b, R1.isSome = b := ⟨_, rfl⟩
      obtain ⟨s1, hs1⟩ : ∃ s, R1.getD ⟨#[]⟩ = s := ⟨_, rfl⟩
      rw [hb1, hs1] at HA1
      clear hlk e1 e2 hb1 hs1
      gi_wp2_with (refine ⟨trivial, ?_⟩; gi_at_call 112; refine (CallsIn.inRound l (callsIn_wide.2 (HA1.out W HJ.out.be))).mono ?_; rintro e w4 ⟨rfl, hb4⟩; have J4 := HJ.out.up hb4; have d0 := J4.bf.cell; have d1 := (FF.out w4 J4.be).c0; clear HA1)
      gi_wp2_with (refine ⟨trivial, ?_⟩; gi_at_call 112; refine (CallsIn.inRound l (callsIn_wide.2 (HA2.out w4 J4.be))).mono ?_; rintro e w5 ⟨rfl, hb5⟩; have J5 := J4.up hb5; clear HA2)
      refine ⟨((keepsOthers_belowQ hb4).trans (keepsOthers_belowQ hb5)).from _, ⟨(KeepsT.below hb4).trans (KeepsT.below hb5), (hb4.mono ?_).trans (hb5.mono ?_)⟩, J5, fun k hk => ?_⟩
      · exact (FE.out W HJ.out.be).hB
      · exact (FE.out w4 J4.be).hB
      · rcases List.mem_append.1 hk with hk | hk
        · exact HPRE.out k hk
        · rw [List.mem_singleton.1 hk, HL.out]
    | some h =>
      have e1 : (some h : Option ByteArray).isSome = true := rfl
      have e2 : (some h : Option ByteArray).getD ⟨#[]⟩ = h := rfl
      rw [e1, e2] at HA2
      clear e1 e2
      have fin0 : ∀ (u : World), Below W.heap.size W u → linkK es x = some h → KeepsFrom w3.heap.size W (u.setCell ⟨w.heap.size + 1, 0, none⟩ (.string h)) ∧ LkX es fp w .ret (pre ++ [x]) (u.setCell ⟨w.heap.size + 1, 0, none⟩ (.string h)) := fun u hu hl => by
        have Ju := HJ.out.up hu
        refine ⟨((keepsOthers_belowQ hu).trans (KeepsOthers.setCell _ _ _)).from _, rfl, pre, x, h, rfl, HPRE.out, hl, ?_⟩
        exact ⟨Ju.bf.other (by omega) _, Ju.rs.set _, Ju.be.setCell (p := ⟨w.heap.size + 1, 0, none⟩) (by show _ ≤ w.heap.size + 1; omega) _, by simp; exact Ju.sz⟩
      have FIN := Lib.hid fin0
      clear fin0
      cases R1 with
      | none =>
        have e1 : (none : Option ByteArray).isSome = false := rfl
        have e2 : (none : Option ByteArray).getD ⟨#[]⟩ = ⟨#[]⟩ := rfl
        rw [e1, e2] at HA1
        have HL := Lib.hid (show linkK es x = some h from hlk)
        clear hlk e1 e2
        gi_wp2_with (refine ⟨trivial, ?_⟩; gi_at_call 112; refine (CallsIn.inRound l (callsIn_wide.2 (HA1.out W HJ.out.be))).mono ?_; rintro e w4 ⟨rfl, hb4⟩; have J4 := HJ.out.up hb4; have d0 := J4.bf.cell; have d1 := (FF.out w4 J4.be).c0; clear HA1)
        gi_wp2_with (refine ⟨trivial, ?_⟩; gi_at_call 112; refine (CallsIn.inRound l (callsIn_wide.2 (HA2.out w4 J4.be))).mono ?_; rintro e w5 ⟨rfl, hb5⟩; have J5 := J4.up hb5; have x1 := J5.rs.cell; have x3 := J5.rs.frozen; clear HA2)
        exact FIN.out w5 (hb4.trans (hb5.mono hb4.size)) HL.out
      | some r =>
        have e1 : (some r : Option ByteArray).isSome = true := rfl
        have e2 : (some r : Option ByteArray).getD ⟨#[]⟩ = r := rfl
        rw [e1, e2] at HA1
        clear e1 e2
        by_cases hra : r = ⟨#[97, 108, 116, 101, 114, 110, 97, 116, 101]⟩
        · have q0 : (r.toList == [97, 108, 116, 101, 114, 110, 97, 116, 101]) = true := by rw [hra, ByteArray.toList_eq]; rfl
          have HL := Lib.hid (show linkK es x = some h by rw [hlk]; unfold linkM; simp only; rw [if_pos hra])
          clear hlk hra
          gi_wp2_with (refine ⟨trivial, ?_⟩; gi_at_call 112; refine (CallsIn.inRound l (callsIn_wide.2 (HA1.out W HJ.out.be))).mono ?_; rintro e w4 ⟨rfl, hb4⟩; have J4 := HJ.out.up hb4; have d0 := J4.bf.cell; have d1 := (FF.out w4 J4.be).c0; clear HA1)
          gi_wp2_with (refine ⟨trivial, ?_⟩; gi_at_call 112; refine (CallsIn.inRound l (callsIn_wide.2 (HA2.out w4 J4.be))).mono ?_; rintro e w5 ⟨rfl, hb5⟩; have J5 := J4.up hb5; have x1 := J5.rs.cell; have x3 := J5.rs.frozen; clear HA2)
          exact FIN.out w5 (hb4.trans (hb5.mono hb4.size)) HL.out
        · have q0 : (r.toList == [97, 108, 116, 101, 114, 110, 97, 116, 101]) = false := by
            have : ¬ r.toList = [97, 108, 116, 101, 114, 110, 97, 116, 101] := fun h1 => hra (ba_ext (by rw [h1, ByteArray.toList_eq]))
            simpa using this
          have HL := Lib.hid (show linkK es x = none by rw [hlk]; unfold linkM; simp only; rw [if_neg hra])
          clear hlk hra
          gi_wp2_with (refine ⟨trivial, ?_⟩; gi_at_call 112; refine (CallsIn.inRound l (callsIn_wide.2 (HA1.out W HJ.out.be))).mono ?_; rintro e w4 ⟨rfl, hb4⟩; have J4 := HJ.out.up hb4; have d0 := J4.bf.cell; have d1 := (FF.out w4 J4.be).c0; clear HA1)
          gi_wp2_with (refine ⟨trivial, ?_⟩; gi_at_call 112; refine (CallsIn.inRound l (callsIn_wide.2 (HA2.out w4 J4.be))).mono ?_; rintro e w5 ⟨rfl, hb5⟩; have J5 := J4.up hb5; clear HA2)
          refine ⟨((keepsOthers_belowQ hb4).trans (keepsOthers_belowQ hb5)).from _, ⟨(KeepsT.below hb4).trans (KeepsT.below hb5), (hb4.mono ?_).trans (hb5.mono ?_)⟩, J5, fun k hk => ?_⟩
          · exact (FE.out W HJ.out.be).hB
          · exact (FE.out w4 J4.be).hB
          · rcases List.mem_append.1 hk with hk | hk
            · exact HPRE.out k hk
            · rw [List.mem_singleton.1 hk, HL.out]
  case done =>
    rintro D ys W hD hys ⟨J, hpre⟩ hK
    have HP := Lib.hid (show linkP es i = ⟨#[]⟩ by unfold linkP; rw [List.findSome?_eq_none_iff.2 (by rw [← hys]; exact hpre)]; rfl)
    have x1 := J.rs.cell
    have x3 := J.rs.frozen
    have HO := Lib.hid (J.rs.set (.string ⟨#[]⟩))
    have HKp := Lib.hid ((KeepsOthers.setCell W ⟨w.heap.size + 1, 0, none⟩ (.string ⟨#[]⟩)).same D _ hK rfl)
    have HBl := Lib.hid (J.be.setCell (p := ⟨w.heap.size + 1, 0, none⟩) (by show _ ≤ w.heap.size + 1; omega) (.string ⟨#[]⟩))
    gi_wp2_with fail
    have hK' := HKp.out
    refine ⟨by simp, .inl ⟨_, _, rfl, run_takeDeferred hK', ?_⟩⟩
    have hc5 := cell_kept HO.out.cell (grownBy_putObj' _ D (.deferred none)) (fun r e => by cases e; exact ⟨_, hK', rfl⟩)
    refine ⟨.string ⟨#[]⟩, ?_, by rw [HP.out], HBl.out.trans (belowK_b (w := w) (Nat.le_refl _) _ D _ _ (by omega) hK' rfl rfl)⟩
    simp [results, Try.f79, go_sem, hc5]
  case stop =>
    rintro D c pre W hD ht ⟨rfl, ini, x, h, rfl, h1, h2, J⟩ hK
    have HP := Lib.hid (show linkP es i = h by unfold linkP; rw [some_pre ht h1 h2]; rfl)
    gi_wp2_with fail
    refine ⟨by simp, .inl ⟨_, _, rfl, run_takeDeferred hK, ?_⟩⟩
    have hc5 := cell_kept J.rs.cell (grownBy_putObj' _ D (.deferred none)) (fun r e => by cases e; exact ⟨_, hK, rfl⟩)
    refine ⟨.string h, ?_, by rw [HP.out], J.be.trans (belowK_b (w := w) (Nat.le_refl _) _ D _ _ (by omega) hK rfl rfl)⟩
    simp [results, Try.f79, go_sem, hc5]
end Go.Proofs.Yteefopeclfojiaa
/- 
  Layer 24: the walk of the finder's author.
 -/
namespace Go.Proofs.Yteefopeclfojiaa
open Go.RowKit Go.Sort
attribute [local go_sem] Oper.semAt_some
/-- an author's name. -/
def autK (es : List Evt) (k : Nat) : Option ByteArray := (fstP es k (spA, ⟨#[110, 97, 109, 101]⟩)).map fun n => strOfNums (textP es n)
/-- that of the first author that has one. -/
def authorP (es : List Evt) (i : Int) : Option ByteArray := (namedP es i (spA, ⟨#[97, 117, 116, 104, 111, 114]⟩)).findSome? (autK es)
/-- what lasts within the range of author. -/
structure AuJ (fp : Nat) (w : World) (s : ByteArray) (b : Bool) (W : World) : Prop where
  bf : Boxed W w.heap.size 89 (.pointer (some ⟨fp, 0, none⟩))
  rs : Boxed W (w.heap.size + 1) 9 (.string s)
  rb : Boxed W (w.heap.size + 1 + 1) 4 (.bool b)
  be : Below w.heap.size w W
  sz : w.heap.size + 3 ≤ W.heap.size
theorem AuJ.turn {fp : Nat} {w : World} {s : ByteArray} {b : Bool} {W W' : World} (h : AuJ fp w s b W) (hk : KeepsB [w.heap.size, w.heap.size + 1, w.heap.size + 1 + 1] W W') (hb : Below w.heap.size W W') : AuJ fp w s b W' :=
  ⟨((hk _ (by simp) h.bf.lt).1).trans h.bf, ((hk _ (by simp) h.rs.lt).1).trans h.rs, ((hk _ (by simp) h.rb.lt).1).trans h.rb, h.be.trans hb, Nat.le_trans h.sz hb.size⟩
theorem AuJ.up {fp : Nat} {w : World} {s : ByteArray} {b : Bool} {W W' : World} (h : AuJ fp w s b W) (hb : Below W.heap.size W W') : AuJ fp w s b W' := h.turn (KeepsB.below hb) (hb.mono h.be.size)
theorem auJ_turns {fp : Nat} {w : World} {s : ByteArray} {b : Bool} {B : Nat} (hB : w.heap.size + 3 ≤ B) {X Y : World} (h : AuJ fp w s b X) (ht : Turns NoMu B X Y) : AuJ fp w s b Y := by
  have hbl := ht.below (C := w.heap.size) (by omega) h.be.size
  obtain ⟨row, hg, hrow⟩ := ht
  refine h.turn (fun k hk hl => ⟨hg.block k hl (fun e => ?_), hg.size⟩) hbl
  have := (hrow k e.symm).1
  simp at hk
  omega
theorem AuJ.sets {fp : Nat} {w : World} {s : ByteArray} {b : Bool} {W : World} (J : AuJ fp w s b W) (s' : ByteArray) (b' : Bool) : AuJ fp w s' b' ((W.setCell ⟨w.heap.size + 1, 0, none⟩ (.string s')).setCell ⟨w.heap.size + 1 + 1, 0, none⟩ (.bool b')) :=
  ⟨(J.bf.other (by omega) _).other (by omega) _, (J.rs.set _).other (by omega) _, (J.rb.other (by omega) _).set _, (J.be.setCell (p := ⟨w.heap.size + 1, 0, none⟩) (by show _ ≤ w.heap.size + 1; omega) _).setCell (p := ⟨w.heap.size + 1 + 1, 0, none⟩) (by show _ ≤ w.heap.size + 1 + 1; omega) _, by simp; exact J.sz⟩
def AuI (es : List Evt) (fp : Nat) (w : World) (pre : List Nat) (W : World) : Prop := AuJ fp w ⟨#[]⟩ false W ∧ ∀ k ∈ pre, autK es k = none
def AuX (es : List Evt) (fp : Nat) (w : World) (c : Code) (pre : List Nat) (W : World) : Prop := c = .ret ∧ ∃ (ini : List Nat) (x : Nat) (h : ByteArray), pre = ini ++ [x] ∧ (∀ k ∈ ini, autK es k = none) ∧ autK es x = some h ∧ AuJ fp w h true W
set_option maxRecDepth 100000 in
set_option maxHeartbeats 8000000 in
theorem finder_author (B : Nat) (es : List Evt) (v : Value) (fp : Nat) (i : Int) (it : Array Value) (w : World) (hE : FEv B es v w) (hF : FinAt w fp v i it) :
    Calls Try.prog 124 #[.pointer (some ⟨fp, 0, none⟩)] w fun r w' => r = .returned (.tuple #[.string ((authorP es i).getD ⟨#[]⟩), .bool (authorP es i).isSome]) ∧ Below w.heap.size w w' := by
  refine (callsIn_wide (n := 6)).1 ?_
  refine callsIn_of_wp_marks Try.func124 rfl trivial ?_ rfl
  simp only [Try.ntmps124, List.size_toArray, List.length_cons, List.length_nil, Nat.reduceAdd, Nat.reduceSub, Array.replicate_succ, Array.replicate_zero, List.push_toArray, List.append_toArray, List.nil_append, List.cons_append]
  obtain ⟨avs, ⟨a, cap, rfl, -⟩, -⟩ := id hE.r
  have hfl := hF.2.lt
  have hb0 : Below w.heap.size w (((w.alloc (.cells #[.pointer (some ⟨fp, 0, none⟩)] 89)).alloc (.cells #[.string ⟨#[]⟩] 9)).alloc (.cells #[.bool false] 4)) :=
    (((Below.refl w.heap.size w).alloc (Nat.le_refl _) _).alloc (by simp) _).alloc (by simp; omega) _
  have J0 : AuJ fp w ⟨#[]⟩ false (((w.alloc (.cells #[.pointer (some ⟨fp, 0, none⟩)] 89)).alloc (.cells #[.string ⟨#[]⟩] 9)).alloc (.cells #[.bool false] 4)) := by
    have h2 := Boxed.new (w.alloc (.cells #[.pointer (some ⟨fp, 0, none⟩)] 89)) 9 (.string ⟨#[]⟩)
    have h3 := Boxed.new ((w.alloc (.cells #[.pointer (some ⟨fp, 0, none⟩)] 89)).alloc (.cells #[.string ⟨#[]⟩] 9)) 4 (.bool false)
    simp only [World.size_alloc] at h2 h3
    exact ⟨((Boxed.new w _ _).alloc _).alloc _, h2.alloc _, h3, hb0, by simp⟩
  have FF := Lib.hid (fun (u : World) (hu : Below w.heap.size w u) => hF.low hu hfl)
  have FE := Lib.hid (fun (u : World) (hu : Below w.heap.size w u) => hE.below hu)
  have HN := Lib.hid atom_Name
  gi_wp2_with fail
  generalize ((w.alloc (.cells #[.pointer (some ⟨fp, 0, none⟩)] 89)).alloc (.cells #[.string ⟨#[]⟩] 9)).alloc (.cells #[.bool false] 4) = w1 at J0 hb0 ⊢
  have c0 : w1.drew.cell? ⟨w.heap.size, 0, none⟩ = some (.pointer (some ⟨fp, 0, none⟩)) := J0.bf.cell
  replace J0 : AuJ fp w ⟨#[]⟩ false w1.drew := J0.up (Below.refl w1.heap.size w1).drew
  clear hE hF hb0
  refine wpIn_wide.2 ?_
  go_region_held3 (fun w' => w'.cell? ⟨w.heap.size, 0, none⟩ = some (.pointer (some ⟨fp, 0, none⟩))) (first | go_keep | exact c0) (first
    | (go_at_call 31; refine (HN.out _ _).mono ?_; rintro e w2 ⟨rfl, hb⟩; have J0 := J0.up hb; have c0 := J0.bf.cell)
    | (go_at_call 71; refine (callsIn_wide.1 (finder_kids_in Fence.wide 5 trivial rfl _ (spA, ⟨#[97, 117, 116, 104, 111, 114]⟩) _)).mono ?_; rintro e w3 ⟨rfl, rfl⟩))
  clear c0
  have hT : NkAt w2.heap.size (w2.heap.size + 1) fp (.slice a es.length cap) i it (spA, ⟨#[97, 117, 116, 104, 111, 114]⟩) ((w2.alloc (.cells #[.pointer (some ⟨fp, 0, none⟩)] 89)).alloc (.cells #[.string spA, .string ⟨#[97, 117, 116, 104, 111, 114]⟩] 24)) := by
    have h2 := RowAt.new (w2.alloc (.cells #[.pointer (some ⟨fp, 0, none⟩)] 89)) #[.string spA, .string ⟨#[97, 117, 116, 104, 111, 114]⟩] 24
    rw [World.size_alloc] at h2
    have hF2 := FF.out w2 J0.be
    exact ⟨(Boxed.new w2 _ _).alloc _, h2, hF2.1, (hF2.2.alloc _).alloc _⟩
  have hb2 : Below w2.heap.size w2 ((w2.alloc (.cells #[.pointer (some ⟨fp, 0, none⟩)] 89)).alloc (.cells #[.string spA, .string ⟨#[97, 117, 116, 104, 111, 114]⟩] 24)) := ((Below.refl w2.heap.size w2).alloc (Nat.le_refl _) _).alloc (by simp) _
  have J2 := J0.up hb2
  have hE2 := FE.out _ J2.be
  have hs3 : ((w2.alloc (.cells #[.pointer (some ⟨fp, 0, none⟩)] 89)).alloc (.cells #[.string spA, .string ⟨#[97, 117, 116, 104, 111, 114]⟩] 24)).heap.size = w2.heap.size + 2 := by simp
  have hs2 := J0.sz
  obtain ⟨w3, hw3⟩ : ∃ x, ((w2.alloc (.cells #[.pointer (some ⟨fp, 0, none⟩)] 89)).alloc (.cells #[.string spA, .string ⟨#[97, 117, 116, 104, 111, 114]⟩] 24)) = x := ⟨_, rfl⟩
  rw [hw3] at hT J2 hs3 hE2 ⊢
  clear hw3 hb2 J0 hb
  obtain ⟨q, hq⟩ : ∃ q, w2.heap.size = q := ⟨_, rfl⟩
  rw [hq] at hT hs3 hs2 ⊢
  clear hq
  gi_wp2_with fail
  refine wpIn_rangeFunc_ownP NoMu rfl (by omega) (gf := 104) (lb := #[.pointer (some ⟨q, 0, none⟩), .pointer (some ⟨q + 1, 0, none⟩)]) rfl trivial (enters_of Try.func104 (by kernel_rfl) rfl)
    (fkids_stops B es _ (by omega) q (q + 1) fp _ i it (spA, ⟨#[97, 117, 116, 104, 111, 114]⟩) (by have := hE2.n; omega) hE2.z2 w3 hE2.r hE2.hB hT) (fun h k => ⟨h.1.trans k.1, h.2.trans k.2⟩) (fun W l o o' h1 h2 h3 _ => ⟨KeepsT.putObj h2 h3, below_putObj (Nat.le_trans hE2.hB h1) h2 h3⟩) (Below.refl _ _) (fun _ => rfl)
    (AuI es fp w) (AuX es fp w) (fun _ _ _ h ht => ⟨auJ_turns (by omega) h.1 ht, h.2⟩) (fun c pre X Y h ht => by obtain ⟨hc, ini, x, hh, h1, h2, h3, hj⟩ := h; exact ⟨hc, ini, x, hh, h1, h2, h3, auJ_turns (by omega) hj ht⟩)
    ⟨J2, fun k hk => by cases hk⟩
    (fun x a' W => a' = { tmps := #[.pointer (some ⟨fp, 0, none⟩), .pointer (some ⟨w.heap.size, 0, none⟩), .pointer (some ⟨w.heap.size + 1, 0, none⟩), .pointer (some ⟨w.heap.size + 1 + 1, 0, none⟩), .int .i64 (x : Nat), undef, undef, .pointer (some ⟨fp, 0, none⟩), .agg #[.string spA, .string ⟨#[97, 117, 116, 104, 111, 114]⟩], .func (.func 104) #[] #[.pointer (some ⟨q, 0, none⟩), .pointer (some ⟨q + 1, 0, none⟩)], .int .i64 (x : Nat), undef, undef, undef, undef, undef, undef, undef, undef, undef, undef, undef, undef, undef, undef, undef, undef, undef], defers := [] })
    (fun x a' _ _ _ _ h _ _ => h) ?assign ?body ?done ?stop
  case assign =>
    rintro l pre x W K hI hK
    gi_wp2
    exact hK _ _ (KeepsFrom.refl _ _) ⟨⟨Nat.le_refl _, fun k c T fz _ _ => rfl⟩, Below.refl _ _⟩ hI rfl
  case body =>
    rintro l pre x a' W hl ⟨J, hpre⟩ rfl hsp hlen
    have d0 := J.bf.cell
    have d1 := (FF.out W J.be).c0
    have HF1 := (fun (u : World) (hu : Below w.heap.size w u) => events_First B es (.slice a es.length cap) x (spA, ⟨#[110, 97, 109, 101]⟩) u (FE.out u hu).r (FE.out u hu).hB (by have := (FE.out u hu).n; omega) (FE.out u hu).z2)
    have HPRE := Lib.hid hpre
    have HJ := Lib.hid J
    obtain ⟨R, hR⟩ : ∃ r, fstP es x (spA, ⟨#[110, 97, 109, 101]⟩) = r := ⟨_, rfl⟩
    have hak : autK es x = R.map fun n => strOfNums (textP es n) := by unfold autK; rw [hR]
    rw [hR] at HF1
    have hret : ∀ {u w' : World} {r : Ending}, FirstS u w' R r → r = .returned (.tuple #[.int .i64 ((R.getD 0 : Nat) : Int), .bool R.isSome]) ∧ Below u.heap.size u w' := fun {u w' r} h => by
      obtain ⟨h1, h2⟩ := h
      cases R with
      | none => exact ⟨h2, h1⟩
      | some k => exact ⟨h2, h1⟩
    obtain ⟨rb, hrb⟩ : ∃ b, R.isSome = b := ⟨_, rfl⟩
    obtain ⟨rk, hrk⟩ : ∃ k, R.getD 0 = k := ⟨_, rfl⟩
    rw [hrb, hrk] at hret
    have k0 := cell_regrown d0
    have k1 := cell_regrown d1
    have cN := fun (d : Nat) (os : Array Obj) => CallsIn.regrown_of (CallsIn.inRound l (callsIn_wide (n := 3).2 (HN.out ⟨#[110, 97, 109, 101]⟩ (grow (redrawn W d) os))))
    have cF := fun (d : Nat) (os : Array Obj) => CallsIn.regrown_of (CallsIn.inRound l (callsIn_wide (n := 3).2 ((HF1 (grow (redrawn W d) os) (J.be.trans ((below_regrown W d os).mono J.be.size))).mono fun _ _ h => hret h)))
    clear HF1 hret J hpre
    gi_wp2_with fail
    refine wpIn_region_below_tail 11 (by kernel_rfl) (by kernel_rfl) (by kernel_rfl) ?_
    simp only [List.take_succ_cons, List.take_zero, List.drop_succ_cons, List.drop_zero]
    repeat (refine wpQuietIn_step (askedR (fun _ => trivial)) (fun K hK => ?_); go_simp; first | (refine hK _ ?_; clear hK K) | (apply Exists.intro; refine ⟨fun _ => ?_, hK _ ?_⟩; (first | exact cN _ _ | exact cF _ _ | exact ⟨by decide, cN _ _⟩ | exact ⟨by decide, cF _ _⟩); clear hK K))
    clear k0 k1 cN cF d0 d1
    refine wpQuietIn_nil ?_
    rintro w4 ⟨⟨dq, osq⟩, hw4⟩
    have hb4 : Below W.heap.size W w4 := by rw [hw4]; exact below_regrown W dq osq
    clear hw4
    have J4 := HJ.out.up hb4
    have d0 := J4.bf.cell
    have d1 := (FF.out w4 J4.be).c0
    cases rb with
    | false =>
      have hRn : R = none := by cases R with | none => rfl | some k => cases hrb
      have HL := Lib.hid (show autK es x = none by rw [hak, hRn]; rfl)
      clear hrb hrk hak hRn hR
      gi_wp2_with fail
      refine ⟨(keepsOthers_belowQ hb4).from _, ⟨KeepsT.below hb4, hb4.mono (FE.out W HJ.out.be).hB⟩, J4, fun k hk => ?_⟩
      rcases List.mem_append.1 hk with hk | hk
      · exact HPRE.out k hk
      · rw [List.mem_singleton.1 hk, HL.out]
    | true =>
      have hRs : R = some rk := by
        cases R with
        | none => cases hrb
        | some k => rw [← hrk]; rfl
      have HL := Lib.hid (show autK es x = some (strOfNums (textP es rk)) by rw [hak, hRs]; rfl)
      have hE4 := FE.out w4 J4.be
      have HT := Lib.hid (events_Text B es (.slice a es.length cap) rk w4 hE4.r hE4.hB (by have := hE4.n; omega) hE4.z2 hE4.t hE4.c)
      clear hrb hrk hak hRs hR hE4
      gi_wp2_with (refine ⟨trivial, ?_⟩; gi_at_call 21; refine (CallsIn.inRound l (callsIn_wide.2 HT.out)).mono ?_; rintro e w5 ⟨rfl, hb5⟩; have J5 := J4.up hb5; have x1 := J5.rs.cell; have x2 := J5.rb.cell; have x3 := J5.rs.frozen; have x4 := J5.rb.frozen)
      refine ⟨(((keepsOthers_belowQ hb4).trans (keepsOthers_belowQ hb5)).trans ((KeepsOthers.setCell _ _ _).trans (KeepsOthers.setCell _ _ _))).from _, rfl, pre, x, _, rfl, HPRE.out, HL.out, J5.sets _ _⟩
  case done =>
    rintro D ys W hD hys ⟨J, hpre⟩ hK
    have HP := Lib.hid (show authorP es i = none by unfold authorP; rw [List.findSome?_eq_none_iff.2 (by rw [← hys]; exact hpre)])
    have x1 := J.rs.cell
    have x2 := J.rb.cell
    have x3 := J.rs.frozen
    have x4 := J.rb.frozen
    have HO := Lib.hid (J.sets ⟨#[]⟩ false)
    have HKp := Lib.hid (((KeepsOthers.setCell W ⟨w.heap.size + 1, 0, none⟩ (.string ⟨#[]⟩)).trans (KeepsOthers.setCell _ ⟨w.heap.size + 1 + 1, 0, none⟩ (.bool false))).same D _ hK rfl)
    gi_wp2_with fail
    have hK' := HKp.out
    refine ⟨by simp, .inl ⟨_, _, rfl, run_takeDeferred hK', ?_⟩⟩
    have hc5 := cell_kept HO.out.rs.cell (grownBy_putObj' _ D (.deferred none)) (fun r e => by cases e; exact ⟨_, hK', rfl⟩)
    have hc6 := cell_kept HO.out.rb.cell (grownBy_putObj' _ D (.deferred none)) (fun r e => by cases e; exact ⟨_, hK', rfl⟩)
    refine ⟨.tuple #[.string ⟨#[]⟩, .bool false], ?_, by rw [HP.out]; rfl, HO.out.be.trans (belowK_b (w := w) (Nat.le_refl _) _ D _ _ (by omega) hK' rfl rfl)⟩
    simp [results, Try.f124, go_sem, hc5, hc6]
  case stop =>
    rintro D c pre W hD ht ⟨rfl, ini, x, h, rfl, h1, h2, J⟩ hK
    have HP := Lib.hid (show authorP es i = some h by unfold authorP; rw [some_pre ht h1 h2])
    gi_wp2_with fail
    refine ⟨by simp, .inl ⟨_, _, rfl, run_takeDeferred hK, ?_⟩⟩
    have hc5 := cell_kept J.rs.cell (grownBy_putObj' _ D (.deferred none)) (fun r e => by cases e; exact ⟨_, hK, rfl⟩)
    have hc6 := cell_kept J.rb.cell (grownBy_putObj' _ D (.deferred none)) (fun r e => by cases e; exact ⟨_, hK, rfl⟩)
    refine ⟨.tuple #[.string h, .bool true], ?_, by rw [HP.out]; rfl, J.be.trans (belowK_b (w := w) (Nat.le_refl _) _ D _ _ (by omega) hK rfl rfl)⟩
    simp [results, Try.f124, go_sem, hc5, hc6]
end Go.Proofs.Yteefopeclfojiaa
/- 
  Layer 24: whether a text is empty: the program's, the document's.
 -/
namespace Go.Proofs.Yteefopeclfojiaa
open Go.RowKit
/-- white space. -/
def wB (c : Int) : Bool := c == 32 || c == 9 || c == 10 || c == 13
/-- nothing but white space. -/
def emptyB (s : ByteArray) : Bool := decide (∀ i, (h : i < s.size) → wB (s[i].toNat : Int) = true)
theorem emptyB_t {s : ByteArray} (h : ∀ i, (h : i < s.size) → wB (s[i].toNat : Int) = true) : emptyB s = true := decide_eq_true h
theorem emptyB_f {s : ByteArray} {i : Nat} (hi : i < s.size) (h : wB (s[i].toNat : Int) = false) : emptyB s = false := by
  refine decide_eq_false fun q => ?_
  rw [q i hi] at h
  cases h
theorem wB_high {c : Int} (h : 33 ≤ c) : wB c = false := by unfold wB; simp; omega
theorem wB_low : ∀ n : Nat, n < 64 → (bits BinOp.and IntKind.u64 (4294977024 / 2 ^ n) 1 == 1) = wB (n : Int) := by decide +kernel
theorem emptyB_first {s : ByteArray} (h : 0 < s.size) (hw : wB (s[0].toNat : Int) = true) : emptyB (s.extract 1 s.size) = emptyB s := by
  unfold emptyB
  rw [decide_eq_decide]
  constructor
  · intro q i hi
    cases i with
    | zero => exact hw
    | succ i =>
      have := q i (by simp; omega)
      simpa [ByteArray.getElem_extract, Nat.add_comm] using this
  · intro q i hi
    have := q (1 + i) (by simp at hi; omega)
    simpa [ByteArray.getElem_extract] using this
theorem emptyB_last {s : ByteArray} (h : 0 < s.size) (hw : wB ((s[s.size - 1]'(by omega)).toNat : Int) = true) : emptyB (s.extract 0 (s.size - 1)) = emptyB s := by
  unfold emptyB
  rw [decide_eq_decide]
  constructor
  · intro q i hi
    by_cases hl : i < s.size - 1
    · have := q i (by simp; omega)
      simpa [ByteArray.getElem_extract] using this
    · have e : i = s.size - 1 := by omega
      subst e
      exact hw
  · intro q i hi
    have := q i (by simp at hi; omega)
    simpa [ByteArray.getElem_extract] using this
theorem text_space (c : Int) (h0 : 0 ≤ c) (h1 : c < 256) (w : World) : Calls Try.prog 125 #[.int .u8 c] w fun e w' => e = .returned (.bool (wB c)) ∧ w = w' := by
  by_cases h64 : c < 64
  · have d := decide_eq_true h64
    have hb := wB_low c.toNat (by omega)
    rw [Int.toNat_of_nonneg h0] at hb
    go_enter Try.func125, Try.ntmps125
    go_wp2
    go_ret
    exact ⟨rfl, rfl⟩
  · have d := decide_eq_false h64
    rw [wB_high (c := c) (by omega)]
    go_enter Try.func125, Try.ntmps125
    go_wp2
    go_ret
    exact ⟨rfl, rfl⟩
theorem ref22_space (r : Int) (w : World) : Calls Try.prog 105 #[.int .u8 r] w fun e w' => e = .returned (.bool (wB r)) ∧ w = w' := by
  go_enter Try.func105, Try.ntmps105
  go_wp2
  all_goals
    go_light
    go_ret
    refine ⟨ret_bool ?_, rfl⟩
    unfold wB
    first | rfl | (subst_vars; rfl)
set_option maxRecDepth 100000 in
theorem text_Empty (s : ByteArray) (w : World) :
    Calls Try.prog 110 #[.string s] w fun e w' => e = .returned (.bool (emptyB s)) ∧ Below w.heap.size w w' := by
  have HB : ∀ pos, Below w.heap.size w (w.iter s pos) := fun pos => (Below.refl _ w).alloc (Nat.le_refl _) _
  go_enter Try.func110, Try.ntmps110
  go_wp2
  go_loopw [] (fun w' => ∃ pos : Nat, w' = w.iter s pos ∧ ∀ i, (h : i < s.size) → i < pos → wB (s[i].toNat : Int) = true) (fun w' => s.size - w'.iterPos w.heap.size)
  case atStart => exact ⟨0, rfl, fun i _ h => absurd h (Nat.not_lt_zero i)⟩
  case round =>
    obtain ⟨pos, rfl, hc⟩ := hrel
    by_cases hp : pos < s.size
    · have hnx : ∀ ty, (Instr.next (.pointer (some ⟨w.heap.size, 0, none⟩)) true ty).run Try.prog (w.iter s pos) = _ := fun ty => run_next_any w s pos ty hp
      by_cases ha : (s[pos]'hp).toNat < 128
      · rw [decode_ascii s pos hp ha] at hnx
        by_cases h6 : (s[pos]'hp).toNat < 64
        · have d6 : decide ((64:Int) ≤ ((s[pos]'hp).toNat : Int)) = false := decide_eq_false (by omega)
          cases hw : wB ((s[pos]'hp).toNat : Int) with
          | false =>
            have hf := emptyB_f hp hw
            go_wp2_with (go_at_call 125; refine (text_space _ (by omega) (by omega) _).mono ?_; rintro e w' ⟨rfl, rfl⟩)
            go_ret
            exact ⟨by first | rfl | (rw [hf]; rfl), HB _⟩
          | true =>
            go_wp2_with (go_at_call 125; refine (text_space _ (by omega) (by omega) _).mono ?_; rintro e w' ⟨rfl, rfl⟩)
            go_roundw
            case rel =>
              refine ⟨pos + 1, rfl, fun i h hi => ?_⟩
              by_cases hq : i < pos
              · exact hc i h hq
              · have e : i = pos := by omega
                subst e
                exact hw
            case measure =>
              simp
              omega
        · have d6 : decide ((64:Int) ≤ ((s[pos]'hp).toNat : Int)) = true := decide_eq_true (by omega)
          have hf := emptyB_f hp (wB_high (by omega))
          go_wp2
          go_ret
          exact ⟨by first | rfl | (rw [hf]; rfl), HB _⟩
      · have hh := (decode_high s pos hp (by omega)).1
        have d6 : decide ((64:Int) ≤ ((Utf8.decode s pos).1 : Int)) = true := decide_eq_true (by omega)
        have hf := emptyB_f hp (wB_high (by omega))
        go_wp2
        go_ret
        exact ⟨by first | rfl | (rw [hf]; rfl), HB _⟩
    · have hnx : ∀ ty, (Instr.next (.pointer (some ⟨w.heap.size, 0, none⟩)) true ty).run Try.prog (w.iter s pos) = _ := fun ty => run_next_end w s pos ty hp
      have he := emptyB_t fun i h => hc i h (by omega)
      go_wp2
      go_ret
      exact ⟨by first | rfl | (rw [he]; rfl), HB _⟩
theorem end_f {r s : ByteArray} (hf : emptyB r = emptyB s) (hq : r.size - 1 < r.size) (hw : wB ((r[r.size - 1]'hq).toNat : Int) = false) : r.toList.isEmpty = emptyB s := by
  rw [← hf, emptyB_f hq hw, ByteArray.toList_eq, List.isEmpty_eq_false_iff]
  intro e
  have : r.size = 0 := by simpa using congrArg List.length e
  omega
theorem end_t {r s : ByteArray} (hf : emptyB r = emptyB s) (hq : ¬ 0 < r.size) : r.toList.isEmpty = emptyB s := by
  have e : r = ⟨#[]⟩ := ByteArray.ext (Array.eq_empty_of_size_eq_zero (Nat.eq_zero_of_not_pos hq))
  rw [← hf, emptyB_t (s := r) fun i h => absurd h (by omega), e, ByteArray.toList_eq]
  rfl
def strLenV : Value → Nat
  | .string t => t.size
  | _ => 0
set_option maxRecDepth 100000 in
theorem ref22_Trim (s : ByteArray) (w : World) (hs : s.size ≤ 1125899906842624) :
    Calls Try.prog 72 #[.string s] w fun e w' => (∃ t, e = .returned (.string t) ∧ t.toList.isEmpty = emptyB s) ∧ w = w' := by
  go_enter Try.func72, Try.ntmps72
  go_wp2
  go_loop [0] (fun v => ∃ t : ByteArray, v = .string t ∧ t.size ≤ s.size ∧ emptyB t = emptyB s) (fun v => strLenV v)
  case atStart => exact ⟨s, rfl, Nat.le_refl _, rfl⟩
  case round =>
    obtain ⟨t, rfl, ht, he⟩ := hrel
    by_cases hp : 0 < t.size
    · have d0 : decide ((0:Int) < (t.size : Int)) = true := decide_eq_true (by omega)
      cases hw : wB ((t[0]'hp).toNat : Int) with
      | true =>
        go_wp2_with (go_at_call 105; refine (ref22_space _ _).mono ?_; rintro e w' ⟨rfl, rfl⟩)
        go_round
        case rel => exact ⟨t.extract 1 t.size, rfl, by simp; omega, by rw [emptyB_first hp hw]; exact he⟩
        case measure => simp [strLenV]; omega
      | false =>
        go_wp2_with (go_at_call 105; refine (ref22_space _ _).mono ?_; rintro e w' ⟨rfl, rfl⟩)
        go_loop [0] (fun v => ∃ r : ByteArray, v = .string r ∧ r.size ≤ s.size ∧ emptyB r = emptyB s) (fun v => strLenV v)
        case atStart => exact ⟨t, rfl, ht, he⟩
        case round =>
          obtain ⟨r, rfl, hr, hf⟩ := hrel
          by_cases hq : 0 < r.size
          · have d1 : decide ((0:Int) < (r.size : Int)) = true := decide_eq_true (by omega)
            have hq1 : r.size - 1 < r.size := by omega
            cases hw : wB ((r[r.size - 1]'hq1).toNat : Int) with
            | true =>
              go_wp2_with (go_at_call 105; refine (ref22_space _ _).mono ?_; rintro e w' ⟨rfl, rfl⟩)
              go_round
              case rel => exact ⟨r.extract 0 (r.size - 1), rfl, by simp; omega, by rw [emptyB_last hq hw]; exact hf⟩
              case measure => simp [strLenV]; omega
            | false =>
              go_wp2_with (go_at_call 105; refine (ref22_space _ _).mono ?_; rintro e w' ⟨rfl, rfl⟩)
              go_ret
              exact ⟨⟨r, rfl, end_f hf hq1 hw⟩, rfl⟩
          · have d1 : decide ((0:Int) < (r.size : Int)) = false := decide_eq_false (by omega)
            go_wp2
            go_ret
            exact ⟨⟨r, rfl, end_t hf hq⟩, rfl⟩
    · have d0 : decide ((0:Int) < (t.size : Int)) = false := decide_eq_false (by omega)
      go_wp2
      go_loop [0] (fun v => ∃ r : ByteArray, v = .string r ∧ r.size ≤ s.size ∧ emptyB r = emptyB s) (fun v => strLenV v)
      case atStart => exact ⟨t, rfl, ht, he⟩
      case round =>
        obtain ⟨r, rfl, hr, hf⟩ := hrel
        by_cases hq : 0 < r.size
        · have d1 : decide ((0:Int) < (r.size : Int)) = true := decide_eq_true (by omega)
          have hq1 : r.size - 1 < r.size := by omega
          cases hw : wB ((r[r.size - 1]'hq1).toNat : Int) with
          | true =>
            go_wp2_with (go_at_call 105; refine (ref22_space _ _).mono ?_; rintro e w' ⟨rfl, rfl⟩)
            go_round
            case rel => exact ⟨r.extract 0 (r.size - 1), rfl, by simp; omega, by rw [emptyB_last hq hw]; exact hf⟩
            case measure => simp [strLenV]; omega
          | false =>
            go_wp2_with (go_at_call 105; refine (ref22_space _ _).mono ?_; rintro e w' ⟨rfl, rfl⟩)
            go_ret
            exact ⟨⟨r, rfl, end_f hf hq1 hw⟩, rfl⟩
        · have d1 : decide ((0:Int) < (r.size : Int)) = false := decide_eq_false (by omega)
          go_wp2
          go_ret
          exact ⟨⟨r, rfl, end_t hf hq⟩, rfl⟩
theorem ref22_Empty (s : ByteArray) (w : World) (hs : s.size ≤ 1125899906842624) :
    Calls Try.prog 38 #[.string s] w fun e w' => e = .returned (.bool (emptyB s)) ∧ w = w' := by
  go_enter Try.func38, Try.ntmps38
  go_wp2_with (go_at_call 72; refine (ref22_Trim _ _ hs).mono ?_; rintro e w' ⟨⟨t, rfl, ht⟩, rfl⟩)
  go_ret
  exact ⟨rfl, rfl⟩
end Go.Proofs.Yteefopeclfojiaa
/- 
  Layer 24: the walk of the finder's date.
 -/
namespace Go.Proofs.Yteefopeclfojiaa
open Go.RowKit
/-- the date: the first of some names that has a text; else Dublin Core's. -/
def dateP (es : List Evt) (i : Int) : List ByteArray → ByteArray × Int
  | [] => if emptyB (txtOf es i (spC, ⟨#[100, 97, 116, 101]⟩)) then (⟨#[]⟩, 0) else (txtOf es i (spC, ⟨#[100, 97, 116, 101]⟩), 3)
  | n :: ns => if emptyB (txtOf es i (spA, n)) then dateP es i ns else (txtOf es i (spA, n), 2)
theorem dateP_at {es : List Evt} {i : Int} {ns : List ByteArray} {k : Nat} (h : k < ns.length) : dateP es i (ns.drop k) = if emptyB (txtOf es i (spA, ns[k])) then dateP es i (ns.drop (k + 1)) else (txtOf es i (spA, ns[k]), 2) := by
  rw [List.drop_eq_getElem_cons h]
  rfl
/-- a row of strings, as an argument is known to be. -/
def StrsAt (w : World) (v : Value) (ns : List ByteArray) : Prop := ∃ a cap, v = .slice a ns.length cap ∧ ∀ k, (h : k < ns.length) → ∃ q o, a = some ⟨q, o, none⟩ ∧ q < w.heap.size ∧ w.cell? ⟨q, o + k, none⟩ = some (.string ns[k])
theorem StrsAt.below {w w' : World} {v : Value} {ns : List ByteArray} (h : StrsAt w v ns) (hb : Below w.heap.size w w') : StrsAt w' v ns := by
  obtain ⟨a, cap, rfl, h⟩ := h
  refine ⟨a, cap, rfl, fun k hk => ?_⟩
  obtain ⟨q, o, rfl, hq, hc⟩ := h k hk
  exact ⟨q, o, rfl, Nat.lt_of_lt_of_le hq hb.size, by rw [hb.cell hq]; exact hc⟩
set_option maxRecDepth 100000 in
set_option maxHeartbeats 4000000 in
theorem finder_date (B : Nat) (es : List Evt) (v : Value) (fp : Nat) (i : Int) (it : Array Value) (ns : List ByteArray) (nv : Value) (w : World) (hE : FEv B es v w) (hF : FinAt w fp v i it) (hN : StrsAt w nv ns) (hns : ns.length ≤ 1000) :
    Calls Try.prog 77 #[.pointer (some ⟨fp, 0, none⟩), nv] w fun r w' => r = .returned (.tuple #[.string (dateP es i ns).1, .int .i8 (dateP es i ns).2]) ∧ Below w.heap.size w w' := by
  obtain ⟨a, cap, rfl, hq⟩ := hN
  have hfl := hF.2.lt
  have FT := Lib.hid (fun (nm : ByteArray × ByteArray) (u : World) (hu : Below w.heap.size w u) => finder_text B es v fp i it nm u (hE.below hu) (hF.low hu hfl))
  have HN := Lib.hid atom_Name
  have HC := Lib.hid atom_Core
  have HQ := Lib.hid hq
  clear hE hF hq
  go_enter Try.func77, Try.ntmps77
  go_wp2
  go_loopw [12] (fun v w' => ∃ k : Nat, v = .int .i64 k ∧ k ≤ ns.length ∧ Below w.heap.size w w' ∧ dateP es i (ns.drop k) = dateP es i ns) (fun v _ => ns.length - (intOf v).toNat)
  case atStart => exact ⟨0, rfl, Nat.zero_le _, Below.refl _ _, rfl⟩
  case round =>
    obtain ⟨k, rfl, hk, hb, hd⟩ := hrel
    by_cases hlt : k < ns.length
    · have d0 : decide ((k : Int) < (ns.length : Int)) = true := decide_eq_true (by omega)
      obtain ⟨q, o, rfl, hq, hc⟩ := HQ.out k hlt
      have hst := dateP_at (es := es) (i := i) hlt
      rw [hd] at hst
      have hc1 : wr.cell? ⟨q, o + k, none⟩ = some (.string ns[k]) := by rw [hb.cell hq]; exact hc
      obtain ⟨n, hn⟩ : ∃ n, ns[k] = n := ⟨_, rfl⟩
      rw [hn] at hc hc1 hst
      have HX := Lib.hid hst
      clear hst hd hn hc
      cases he : emptyB (txtOf es i (spA, n)) with
      | true =>
        go_wp2_with (first
          | (go_at_call 31; refine (HN.out _ _).mono ?_; rintro e w2 ⟨rfl, hb2⟩; have hb3 := hb.trans (hb2.mono hb.size))
          | (go_at_call 109; refine (FT.out (spA, n) _ hb3).mono ?_; rintro e w3 ⟨rfl, hb4⟩; have hb5 := hb3.trans (hb4.mono hb3.size))
          | (go_at_call 110; refine (text_Empty _ _).mono ?_; rintro e w4 ⟨rfl, hb6⟩; have hb7 := hb5.trans (hb6.mono hb5.size)))
        go_roundw
        case rel => exact ⟨k + 1, by go_num, by omega, hb7, by rw [HX.out, if_pos he]⟩
        case measure => simp [intOf]; omega
      | false =>
        go_wp2_with (first
          | (go_at_call 31; refine (HN.out _ _).mono ?_; rintro e w2 ⟨rfl, hb2⟩; have hb3 := hb.trans (hb2.mono hb.size))
          | (go_at_call 109; refine (FT.out (spA, n) _ hb3).mono ?_; rintro e w3 ⟨rfl, hb4⟩; have hb5 := hb3.trans (hb4.mono hb3.size))
          | (go_at_call 110; refine (text_Empty _ _).mono ?_; rintro e w4 ⟨rfl, hb6⟩; have hb7 := hb5.trans (hb6.mono hb5.size)))
        go_ret2
        have hr : dateP es i ns = (txtOf es i (spA, n), 2) := by rw [HX.out, if_neg (by simp [he])]
        exact ⟨by rw [hr]; rfl, hb7⟩
    · have d0 : decide ((k : Int) < (ns.length : Int)) = false := decide_eq_false (by omega)
      have hst : dateP es i [] = dateP es i ns := by
        rw [← hd, List.drop_eq_nil_of_le (by omega)]
      have HX := Lib.hid hst
      clear hst hd
      cases he : emptyB (txtOf es i (spC, ⟨#[100, 97, 116, 101]⟩)) with
      | true =>
        go_wp2_with (first
          | (go_at_call 33; refine (HC.out _ _).mono ?_; rintro e w2 ⟨rfl, hb2⟩; have hb3 := hb.trans (hb2.mono hb.size))
          | (go_at_call 109; refine (FT.out (spC, _) _ hb3).mono ?_; rintro e w3 ⟨rfl, hb4⟩; have hb5 := hb3.trans (hb4.mono hb3.size))
          | (go_at_call 110; refine (text_Empty _ _).mono ?_; rintro e w4 ⟨rfl, hb6⟩; have hb7 := hb5.trans (hb6.mono hb5.size)))
        go_ret2
        have hr : dateP es i ns = (⟨#[]⟩, 0) := by rw [← HX.out]; exact if_pos he
        exact ⟨by rw [hr]; rfl, hb7⟩
      | false =>
        go_wp2_with (first
          | (go_at_call 33; refine (HC.out _ _).mono ?_; rintro e w2 ⟨rfl, hb2⟩; have hb3 := hb.trans (hb2.mono hb.size))
          | (go_at_call 109; refine (FT.out (spC, _) _ hb3).mono ?_; rintro e w3 ⟨rfl, hb4⟩; have hb5 := hb3.trans (hb4.mono hb3.size))
          | (go_at_call 110; refine (text_Empty _ _).mono ?_; rintro e w4 ⟨rfl, hb6⟩; have hb7 := hb5.trans (hb6.mono hb5.size)))
        go_ret2
        have hr : dateP es i ns = (txtOf es i (spC, ⟨#[100, 97, 116, 101]⟩), 3) := by rw [← HX.out]; exact if_neg (by simp [he])
        exact ⟨by rw [hr]; rfl, hb7⟩
end Go.Proofs.Yteefopeclfojiaa
