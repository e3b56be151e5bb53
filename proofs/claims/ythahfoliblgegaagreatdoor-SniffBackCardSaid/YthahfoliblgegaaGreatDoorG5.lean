/-
  Parts Im SgP SgA SgB SgQ SgC SgD SgE SgL U8G SgF of this seat's texts, in one file: contracts of functions that the law reaches, and the plain laws behind them. No condition.
-/
import Derived.Test.YthahfoliblgegaaGreatDoorG1
import Derived.Maps.OwnOps
import Derived.RangeFuncBox
import Derived.Test.YthahfoliblgegaaGreatDoorG2
import Derived.Laws.OwnMore
import Derived.Deep.OwnRows
import Derived.Lib.SliceRun
/- 
  A map that the call itself has made, keyed by integers: its block as a list of pairs; look-up and store as equations.
 -/
namespace Go.Proofs.YthahfoliblgegaaGreatDoor
open Go.RowKit
/-- block b is a map whose entries are these pairs, in the order of their birth. -/
def IMap (W : World) (kk : IntKind) (b : Nat) (L : List (Int × Value)) : Prop :=
  ∃ es clock, W.heap[b]? = some (.map es clock) ∧ es.toList.map (fun e => (e.key, e.val)) = L.map (fun p => (Value.int kk p.1, p.2))
def aGet : List (Int × Value) → Int → Option Value
  | [], _ => none
  | p :: r, k => if p.1 == k then some p.2 else aGet r k
def aPut : List (Int × Value) → Int → Value → List (Int × Value)
  | [], k, v => [(k, v)]
  | p :: r, k, v => if p.1 == k then (p.1, v) :: r else p :: aPut r k v
theorem aGet_put (L : List (Int × Value)) (k : Int) (v : Value) (k' : Int) : aGet (aPut L k v) k' = if k' = k then some v else aGet L k' := by
  induction L with
  | nil =>
    rw [aPut, aGet, aGet]
    by_cases h : k' = k
    · subst h; simp
    · have : (k == k') = false := by simp; omega
      rw [if_neg (by rw [this]; decide), if_neg h]; rfl
  | cons p r ih =>
    rw [aPut]
    by_cases h : p.1 = k
    · have e : (p.1 == k) = true := by simp [h]
      rw [if_pos e, aGet, aGet]
      by_cases h' : k' = k
      · rw [if_pos h', if_pos (by simp [h, h'])]
      · rw [if_neg h', if_neg (by simp; omega), if_neg (by simp; omega)]
    · have e : (p.1 == k) = false := by simpa using h
      rw [if_neg (by rw [e]; decide), aGet, aGet, ih]
      by_cases h' : k' = k
      · rw [if_pos h', if_pos h', if_neg (by simp; omega)]
      · rw [if_neg h', if_neg h']
theorem findNow_int (kk : IntKind) (k : Int) : ∀ (es : List MapEntry) (L : List (Int × Value)) (i : Nat), es.map (fun e => (e.key, e.val)) = L.map (fun p => (Value.int kk p.1, p.2)) →
    (aGet L k = none ∧ Instr.findNow (.int kk) (.int kk k) es i = some none ∧ aPut L k = fun v => L ++ [(k, v)]) ∨
    (∃ v j e, aGet L k = some v ∧ Instr.findNow (.int kk) (.int kk k) es i = some (some (i + j, v)) ∧ es[j]? = some e ∧ e.key = .int kk k ∧
      ∀ u, (es.modify j fun e => { e with key := .int kk k, val := u }).map (fun e => (e.key, e.val)) = (aPut L k u).map (fun p => (Value.int kk p.1, p.2)))
  | [], L, i, h => by
    obtain rfl : L = [] := by simpa using h.symm
    exact .inl ⟨rfl, rfl, rfl⟩
  | e :: es, [], i, h => by simp at h
  | e :: es, p :: L, i, h => by
    simp only [List.map_cons, List.cons.injEq, Prod.mk.injEq] at h
    obtain ⟨⟨h1, h2⟩, h3⟩ := h
    have hs : Instr.sameNow (.int kk) (.int kk k) e.key = some (k == p.1) := by rw [h1]; simp [Instr.sameNow]
    by_cases hk : p.1 = k
    · right
      refine ⟨p.2, 0, e, by simp [aGet, hk], ?_, rfl, by rw [h1, hk], ?_⟩
      · rw [Instr.findNow, hs, hk]; simp [h2]
      · intro u
        simp only [List.modify_zero_cons, List.map_cons, h3]
        rw [aPut, if_pos (by simp [hk])]
        simp [hk]
    · have hk' : (k == p.1) = false := by simp; omega
      have hk2 : (p.1 == k) = false := by simpa using hk
      rcases findNow_int kk k es L (i + 1) h3 with ⟨g1, g2, g3⟩ | ⟨v, j, e', g1, g2, g3, g4, g5⟩
      · left
        refine ⟨by rw [aGet, if_neg (by rw [hk2]; decide)]; exact g1, by rw [Instr.findNow, hs, hk']; exact g2, ?_⟩
        funext v
        rw [aPut, if_neg (by rw [hk2]; decide), g3]; rfl
      · right
        refine ⟨v, j + 1, e', by rw [aGet, if_neg (by rw [hk2]; decide)]; exact g1, ?_, by simpa using g3, g4, ?_⟩
        · rw [Instr.findNow, hs, hk']
          rw [g2]
          simp only [Option.some.injEq, Prod.mk.injEq, and_true]
          omega
        · intro u
          simp only [List.modify_succ_cons, List.map_cons, g5 u]
          rw [aPut, if_neg (by rw [hk2]; decide), List.map_cons, h1, h2]
theorem IMap.lookup {W : World} {kk : IntKind} {b : Nat} {L : List (Int × Value)} (h : IMap W kk b L) {t kt et : TypeId} (ht : Tryz.prog.underlying t = some (.map kt et)) (hk : Tryz.prog.underlying kt = some (.int kk)) (z : Value)
    (hz : (zeroValue et).run Tryz.prog W = .ok z W) (k : Int) :
    (Instr.lookup t (.map (some b)) (.int kk k) true).run Tryz.prog W = .ok (.tuple #[(aGet L k).getD z, .bool (aGet L k).isSome]) W ∧
    (Instr.lookup t (.map (some b)) (.int kk k) false).run Tryz.prog W = .ok ((aGet L k).getD z) W := by
  obtain ⟨es, clock, hb, hL⟩ := h
  have hg := MapKept.run_getObj_map (P := Tryz.prog) hb
  have hck : ∀ em, (Instr.checkKey em 10000 kt (.int kk k)).run Tryz.prog W = .ok () W := fun em => MapKept.run_checkKey hk (by simp [MapKept.IsKey]) em 9999
  rcases findNow_int kk k es.toList L 0 hL with ⟨g1, g2, _⟩ | ⟨v, j, e, g1, g2, _⟩
  · have hf : (Instr.findKey kt (.int kk k) es.toList).run Tryz.prog W = .ok none W := by simp [Instr.findKey, run_underlying hk, g2]
    constructor <;> simp [Instr.lookup, run_underlying ht, hg, hck, hf, hz, g1, Result.andThen]
  · have hf : (Instr.findKey kt (.int kk k) es.toList).run Tryz.prog W = .ok (some (0 + j, v)) W := by simp only [Instr.findKey, Sem.run_bind, run_underlying hk, Result.andThen_ok, g2, Sem.run_pure]
    constructor <;> simp [Instr.lookup, run_underlying ht, hg, hck, hf, g1, Result.andThen]
open Go.ChangeMaps in
theorem IMap.update {W : World} {kk : IntKind} {b : Nat} {L : List (Int × Value)} (h : IMap W kk b L) {t kt et : TypeId} (ht : Tryz.prog.underlying t = some (.map kt et)) (hk : Tryz.prog.underlying kt = some (.int kk)) (k : Int) (v : Value) :
    ∃ w', (Instr.mapUpdate t (.map (some b)) (.int kk k) v).run Tryz.prog W = .ok () w' ∧ IMap w' kk b (aPut L k v) ∧ W.grownBy w' (some b) := by
  obtain ⟨es, clock, hb, hL⟩ := h
  have hg := MapKept.run_getObj_map (P := Tryz.prog) hb
  have hck : ∀ em, (Instr.checkKey em 10000 kt (.int kk k)).run Tryz.prog W = .ok () W := fun em => MapKept.run_checkKey hk (by simp [MapKept.IsKey]) em 9999
  have hgr : ∀ o : Obj, W.grownBy (setBlock W b o) (some b) := fun o => ⟨rfl, rfl, rfl, by simp [setBlock], fun i _ hi => heap_setBlock_other hb _ (fun e => hi (by rw [e]))⟩
  rcases findNow_int kk k es.toList L 0 hL with ⟨g1, g2, g3⟩ | ⟨u, j, e, g1, g2, g3, g4, g5⟩
  · have hf : (Instr.findKey kt (.int kk k) es.toList).run Tryz.prog W = .ok none W := by simp [Instr.findKey, run_underlying hk, g2]
    refine ⟨setBlock W b (.map (es.push { key := .int kk k, val := v, born := clock }) (clock + 1)), ?_, ⟨_, _, heap_setBlock_same hb _, ?_⟩, hgr _⟩
    · simp [Instr.mapUpdate, run_underlying ht, hg, hck, hf, MapKept.run_setObj_map _ hb, Result.andThen, setBlock]
    · rw [g3]; simp [hL]
  · have hf : (Instr.findKey kt (.int kk k) es.toList).run Tryz.prog W = .ok (some (0 + j, u)) W := by simp only [Instr.findKey, Sem.run_bind, run_underlying hk, Result.andThen_ok, g2, Sem.run_pure]
    have hj : es[j]? = some e := by rw [← Array.getElem?_toList]; exact g3
    refine ⟨setBlock W b (.map (es.modify j fun e => { e with key := .int kk k, val := v }) clock), ?_, ⟨_, _, heap_setBlock_same hb _, ?_⟩, hgr _⟩
    · simp [Instr.mapUpdate, run_underlying ht, hg, hck, hf, hj, g4, MapKept.run_keyThatStays (d := .int kk) (k := .int kk k) (by simp [MapKept.IsKey]), MapKept.run_setObj_map _ hb, Result.andThen, setBlock]
    · rw [Array.toList_modify]; exact g5 v
theorem IMap.kept {W W' : World} {kk : IntKind} {b : Nat} {L : List (Int × Value)} (h : IMap W kk b L) {row : Option Nat} (hg : W.grownBy W' row) (hne : some b ≠ row) : IMap W' kk b L := by
  obtain ⟨es, clock, hb, hL⟩ := h
  exact ⟨es, clock, (hg.block b (Array.getElem?_eq_some_iff.1 hb).1 hne).trans hb, hL⟩
theorem IMap.row {W W' : World} {kk : IntKind} {b : Nat} {L : List (Int × Value)} (h : IMap W kk b L) {base : Nat} {e : TypeId} {size : Nat} {v : Value} {n : Nat} {xs : List Value} (hown : W.ownsRow base e size v n xs) (hg : W.grownBy W' v.ownBlock) : IMap W' kk b L := by
  refine h.kept hg fun e' => ?_
  obtain ⟨es, clock, hb, _⟩ := h
  rcases hown.2 with ⟨rfl, _⟩ | ⟨g, cap, cur, rfl, _, hgb, _⟩
  · simp [Value.ownBlock] at e'
  · obtain rfl : b = g := by simpa [Value.ownBlock] using e'
    rw [hb] at hgb
    cases hgb
theorem IMap.lt {W : World} {kk : IntKind} {b : Nat} {L : List (Int × Value)} (h : IMap W kk b L) : b < W.heap.size := by
  obtain ⟨es, clock, hb, _⟩ := h
  exact (Array.getElem?_eq_some_iff.1 hb).1
theorem IMap.below {W W' : World} {kk : IntKind} {b : Nat} {L : List (Int × Value)} (h : IMap W kk b L) {B : Nat} (hb : Below B W W') (hB : W.heap.size ≤ B) : IMap W' kk b L := by
  obtain ⟨es, clock, he, hL⟩ := h
  exact ⟨es, clock, (hb.block b (Nat.lt_of_lt_of_le (Array.getElem?_eq_some_iff.1 he).1 hB)).trans he, hL⟩
theorem IMap.made (W : World) (kk : IntKind) : IMap (W.alloc (.map #[] 0)) kk W.heap.size [] := ⟨#[], 0, heap_alloc_new W _, rfl⟩
theorem IMap.alloc {W : World} {kk : IntKind} {b : Nat} {L : List (Int × Value)} (h : IMap W kk b L) (o : Obj) : IMap (W.alloc o) kk b L := h.kept (World.grownBy_alloc W o none) (by simp)
end Go.Proofs.YthahfoliblgegaaGreatDoor
/- 
  The three encodings in plain terms. No program in sight.
 -/
namespace Go.Proofs.YthahfoliblgegaaGreatDoor
def iget : List (Int × Int) → Int → Option Int
  | [], _ => none
  | p :: r, k => if p.1 == k then some p.2 else iget r k
def iput : List (Int × Int) → Int → Int → List (Int × Int)
  | [], k, v => [(k, v)]
  | p :: r, k, v => if p.1 == k then (p.1, v) :: r else p :: iput r k v
def oddGo : Int → List (Int × Int) → List Int → List (Int × Int)
  | _, L, [] => L
  | k, L, x :: r => oddGo (k + 1) (iput L k x) r
theorem oddGo_snoc (x : Int) : ∀ (k : Int) (L : List (Int × Int)) (ys : List Int), oddGo k L (ys ++ [x]) = iput (oddGo k L ys) (k + ys.length) x
  | k, L, [] => by simp [oddGo]
  | k, L, y :: ys => by
    rw [List.cons_append, oddGo, oddGo, oddGo_snoc x (k + 1)]
    congr 1
    simp only [List.length_cons]
    omega
def winX : List Int := [8364, 129, 8218, 402, 8222, 8230, 8224, 8225, 710, 8240, 352, 8249, 338, 141, 381, 143, 144, 8216, 8217, 8220, 8221, 8226, 8211, 8212, 732, 8482, 353, 8250, 339, 157, 382, 376]
def winL : List (Int × Int) := oddGo 128 [] winX
def fiveL : List (Int × Int) := [(240, 8470), (253, 167)]
def nineL : List (Int × Int) := [(164, 8364), (166, 352), (168, 353), (180, 381), (184, 382), (188, 338), (189, 339), (190, 376)]
def plainOf (L : List (Int × Int)) (b : Int) : Int := (iget L b).getD b
def cyrOf (b : Int) : Int := if b < 161 ∨ b = 173 ∨ (iget fiveL b).getD 0 ≠ 0 then plainOf fiveL b else b - 160 + 1024
/-- a byte's scalar in an encoding (3: Win1252, 4: Iso5, 5: Iso15). -/
def encOf (e : Int) (b : Int) : Int := if e = 3 then plainOf winL b else if e = 4 then cyrOf b else plainOf nineL b
def isEnc (e : Int) : Bool := decide (e = 3 ∨ e = 4 ∨ e = 5)
end Go.Proofs.YthahfoliblgegaaGreatDoor
/- 
  The walks of single: odds, codecs, plain, cyrillic.
 -/
namespace Go.Proofs.YthahfoliblgegaaGreatDoor
open Go.RowKit
def iv (L : List (Int × Int)) : List (Int × Value) := L.map fun p => (p.1, .int .i64 p.2)
theorem take_snocL {α : Type} (l : List α) (k : Nat) (h : k < l.length) : l.take (k + 1) = l.take k ++ [l[k]] := by
  rw [List.take_succ_eq_append_getElem h]
theorem iv_get (L : List (Int × Int)) (k : Int) : aGet (iv L) k = (iget L k).map (Value.int .i64) := by
  induction L with
  | nil => rfl
  | cons p r ih =>
    show aGet ((p.1, Value.int .i64 p.2) :: iv r) k = _
    rw [aGet, iget]
    split
    · rfl
    · exact ih
theorem iv_put (L : List (Int × Int)) (k v : Int) : aPut (iv L) k (.int .i64 v) = iv (iput L k v) := by
  induction L with
  | nil => rfl
  | cons p r ih =>
    show aPut ((p.1, Value.int .i64 p.2) :: iv r) k _ = _
    rw [aPut, iput]
    split
    · rfl
    · rw [ih]; rfl
/-- a store into a map whose run is known ('m[k] = v', or an entry of a literal). -/
theorem wpList_mapUpdate_run {P : Program} {w : World} {ops : Array Oper} {rest : List Oper} {o : Oper} {a : Act} {Q : Exit → Act → World → Prop} (hgd : o.guard = none) (m x v : Operand) (t : TypeId)
    (ho : o.op = Op.mapUpdate t m x v ∨ o.op = Op.insert t m x v) (mv xv vv : Value) (hm : a.eval m = mv) (hx : a.eval x = xv) (hv : a.eval v = vv) (w' : World)
    (hr : (Instr.mapUpdate t mv xv vv).run P w = .ok () w') (h : wpList P ops Q rest (a.put o.dst undef) w') : wpList P ops Q (o :: rest) a w :=
  wpList_plain hgd fun K hK => by
    unfold Oper.wp
    rcases ho with ho | ho <;> simp [execOp, ho, hm, hx, hv, hr, Result.andThen] <;> exact hK _ _ h
/-- a store into the call's own map: some world, in which the map has one pair more. -/
theorem wpList_put_I {w : World} {ops : Array Oper} {rest : List Oper} {o : Oper} {a : Act} {Q : Exit → Act → World → Prop} (hgd : o.guard = none) (m x v : Operand) (t : TypeId)
    (ho : o.op = Op.mapUpdate t m x v ∨ o.op = Op.insert t m x v) {kt et : TypeId} (ht : Tryz.prog.underlying t = some (.map kt et)) {kk : IntKind} (hk : Tryz.prog.underlying kt = some (.int kk)) (b : Nat) (L : List (Int × Value))
    (him : IMap w kk b L) (k : Int) (vv : Value) (hm : a.eval m = .map (some b)) (hx : a.eval x = .int kk k) (hv : a.eval v = vv)
    (hK : ∀ w', IMap w' kk b (aPut L k vv) → w.grownBy w' (some b) → wpList Tryz.prog ops Q rest (a.put o.dst undef) w') : wpList Tryz.prog ops Q (o :: rest) a w := by
  obtain ⟨w', hr, h1, h2⟩ := him.update ht hk k vv
  exact wpList_mapUpdate_run hgd m x v t ho _ _ _ hm hx hv w' hr (hK w' h1 h2)
theorem grown_refl (W : World) (row : Option Nat) : W.grownBy W row := ⟨rfl, rfl, rfl, Nat.le_refl _, fun _ _ _ => rfl⟩
theorem grown_trans {a b c : World} {row : Option Nat} (h : a.grownBy b row) (g : b.grownBy c row) : a.grownBy c row :=
  ⟨g.os.trans h.os, g.tape.trans h.tape, g.output.trans h.output, Nat.le_trans h.size g.size, fun k hk hr => (g.block k (Nat.lt_of_lt_of_le hk h.size) hr).trans (h.block k hk hr)⟩
theorem zeroInt (w : World) : (zeroValue 3).run Tryz.prog w = .ok (.int .i64 0) w := by kernel_rfl
set_option maxHeartbeats 1000000 in
theorem single_odds (k0 : Int) (v : Value) (xs : List Int) (B : Nat) (w : World) (hr : Reads B w v (xs.map (Value.int .i64))) (hB : B ≤ w.heap.size) (h0 : 0 ≤ k0) (h1 : k0 ≤ 1000) (hl : xs.length ≤ 1000) :
    Calls Tryz.prog 162 #[.int .i64 k0, v] w fun e w' => ∃ b, e = .returned (.agg #[.map (some b)]) ∧ IMap w' .i64 b (iv (oddGo k0 [] xs)) ∧ w.heap.size ≤ b ∧ Below w.heap.size w w' := by
  obtain ⟨a, cap, rfl, _, hc⟩ := hr.open
  have hmm := @run_makeMap Tryz.prog
  go_enter Tryz.func162, Tryz.ntmps162
  go_wp2_with fail
  have bR := Boxed.new w 189 (.map none)
  have bC := Boxed.new ((w.alloc (.cells #[.map none] 189)).alloc (.map #[] 0)) 189 (.map (some (w.heap.size + 1)))
  have im := IMap.made (w.alloc (.cells #[.map none] 189)) .i64
  rw [World.size_alloc] at im
  rw [World.size_alloc, World.size_alloc] at bC
  have hB0 : Below w.heap.size w (((w.alloc (.cells #[.map none] 189)).alloc (.map #[] 0)).alloc (.cells #[.map (some (w.heap.size + 1))] 189)) := (((Below.refl _ w).alloc (Nat.le_refl _) _).alloc (by simp) _).alloc (by simp; omega) _
  go_loopw [12] (fun i wr => ∃ k : Nat, i = .int .i64 k ∧ k ≤ xs.length ∧ IMap wr .i64 (w.heap.size + 1) (iv (oddGo k0 [] (xs.take k))) ∧ Boxed wr w.heap.size 189 (.map none) ∧ Boxed wr (w.heap.size + 1 + 1) 189 (.map (some (w.heap.size + 1))) ∧ Below w.heap.size w wr) (fun i _ => xs.length - (intOf i).toNat)
  case atStart => exact ⟨0, rfl, by omega, im.alloc _, (bR.alloc _).alloc _, bC, hB0⟩
  case round =>
    obtain ⟨k, rfl, hk, him, hbR, hbC, hb⟩ := hrel
    by_cases hlt : k < xs.length
    · obtain ⟨b, off, rfl, hbB, hcx⟩ := hc k hlt
      have hcx1 := (hb.cell (p := ⟨b, off + k, none⟩) (by exact Nat.lt_of_lt_of_le hbB hB)).trans hcx
      obtain ⟨x, hx⟩ : ∃ x, xs[k] = x := ⟨_, rfl⟩
      rw [hx] at hcx1
      have hs : oddGo k0 [] (xs.take (k + 1)) = iput (oddGo k0 [] (xs.take k)) (k0 + k) x := by
        rw [take_snocL xs k hlt, hx, oddGo_snoc, List.length_take, Nat.min_eq_left hk]
      obtain ⟨w1, hr1, him1, hg1⟩ := him.update (t := 187) Tryz.underlying187 Tryz.underlying3 (k0 + k) (.int .i64 x)
      rw [iv_put, ← hs] at him1
      have HR := Lib.hid hr1
      have hcc := hbC.cell
      clear hr1 hs hx hc hcx hr
      go_wp2_with (at_mapUpdate; refine wpList_mapUpdate_run rfl _ _ _ _ (.inl rfl) _ _ _ rfl rfl rfl _ HR.out ?_)
      exact ⟨⟨k + 1, by go_num, by omega, him1, hbR.kept hg1 (by simp), hbC.kept hg1 (by simp), hb.grown hg1 hb.size (fun j e => by cases e; omega)⟩, by simp [intOf]; omega⟩
    · obtain rfl : k = xs.length := by omega
      rw [List.take_length] at him
      have hcc := hbC.cell
      have hcr := hbR.cell
      have hfr := hbR.frozen
      have hset := hbR.set (.map (some (w.heap.size + 1)))
      have HS := Lib.hid hset
      have him2 := him.kept (grownBy_setCell' wr w.heap.size (.map (some (w.heap.size + 1)))) (by simp)
      have HI := Lib.hid him2
      clear hset him2 hc hr
      go_wp2
      have hc5 := HS.out.cell
      refine bodyPost_ret (v := .agg #[.map (some (w.heap.size + 1))]) (by simp [results, Tryz.f162, go_sem, hc5]) rfl ⟨w.heap.size + 1, rfl, HI.out, by omega, hb.setCell (p := ⟨w.heap.size, 0, none⟩) (Nat.le_refl _) _⟩
def fv (n b : Nat) : Value := .func (.func n) #[.agg #[.map (some b)]] #[]
def nineA : Value := .agg #[.int .i64 164, .int .i64 8364, .int .i64 166, .int .i64 352, .int .i64 168, .int .i64 353, .int .i64 180, .int .i64 381, .int .i64 184, .int .i64 382, .int .i64 188, .int .i64 338, .int .i64 189, .int .i64 339, .int .i64 190, .int .i64 376]
theorem nine_at (k : Nat) (hk : k < 8) : ∃ x y : Int, (∀ w, (Instr.index 192 nineA (.int .i64 k)).run Tryz.prog w = .ok (.agg #[.int .i64 x, .int .i64 y]) w) ∧ iput (nineL.take k) x y = nineL.take (k + 1) := by
  rcases (show k = 0 ∨ k = 1 ∨ k = 2 ∨ k = 3 ∨ k = 4 ∨ k = 5 ∨ k = 6 ∨ k = 7 by omega) with rfl | rfl | rfl | rfl | rfl | rfl | rfl | rfl
  · exact ⟨164, 8364, fun _ => by kernel_rfl, rfl⟩
  · exact ⟨166, 352, fun _ => by kernel_rfl, rfl⟩
  · exact ⟨168, 353, fun _ => by kernel_rfl, rfl⟩
  · exact ⟨180, 381, fun _ => by kernel_rfl, rfl⟩
  · exact ⟨184, 382, fun _ => by kernel_rfl, rfl⟩
  · exact ⟨188, 338, fun _ => by kernel_rfl, rfl⟩
  · exact ⟨189, 339, fun _ => by kernel_rfl, rfl⟩
  · exact ⟨190, 376, fun _ => by kernel_rfl, rfl⟩
/-- what the loop over the nine keeps. -/
structure NineAt (w : World) (n1 n2 b1 b2 : Nat) (k : Nat) (wr : World) : Prop where
  im : IMap wr .i64 (n2 + 1 + 1) (iv (nineL.take k))
  i1 : IMap wr .i64 b1 (iv winL)
  i2 : IMap wr .i64 b2 (iv fiveL)
  c1 : Boxed wr n1 189 (.map (some b1))
  c2 : Boxed wr n2 189 (.map (some b2))
  c4 : Boxed wr (n2 + 1 + 1 + 1) 189 (.map (some (n2 + 1 + 1)))
  bl : Below w.heap.size w wr
set_option maxRecDepth 100000 in
set_option maxHeartbeats 2000000 in
theorem single_codecs (w : World) :
    Calls Tryz.prog 147 #[] w fun e w' => ∃ b b1 b2 b3, e = .returned (.map (some b)) ∧ IMap w' .i8 b [(3, fv 163 b1), (4, fv 164 b2), (5, fv 163 b3)] ∧
      IMap w' .i64 b1 (iv winL) ∧ IMap w' .i64 b2 (iv fiveL) ∧ IMap w' .i64 b3 (iv nineL) ∧ Below w.heap.size w w' := by
  have hmm := @run_makeMap Tryz.prog
  go_enter Tryz.func147, Tryz.ntmps147
  go_wp2_with fail
  refine (single_odds 128 _ winX _ _ (reads_alloc w _ 3 32 32 _ rfl rfl (by unfold maxLen; decide)) (by simp) (by decide) (by decide) (by decide)).mono ?_
  rintro e w1 ⟨b1, rfl, him1, _, hb1⟩
  rw [World.size_alloc] at hb1
  have hB1 : Below w.heap.size w w1 := ((Below.refl _ w).alloc (Nat.le_refl _) _).trans (hb1.mono (by omega))
  have hl1 := him1.lt
  have bC1 := Boxed.new w1 189 (.map (some b1))
  have im2 := IMap.made (w1.alloc (.cells #[.map (some b1)] 189)) .i64
  rw [World.size_alloc] at im2
  have gg := grown_refl ((w1.alloc (.cells #[.map (some b1)] 189)).alloc (.map #[] 0)) (some (w1.heap.size + 1))
  go_wp2_with (refine wpList_put_I rfl _ _ _ _ (.inr rfl) Tryz.underlying187 Tryz.underlying3 _ _ im2 _ _ rfl rfl rfl ?_; intro w2 im2 g2; have gg := grown_trans gg g2; clear g2)
  have im5 : IMap w2 .i64 (w1.heap.size + 1) (iv fiveL) := im2
  have him1' : IMap w2 .i64 b1 (iv winL) := ((him1.alloc _).alloc _).kept gg (by simp; omega)
  have bC1' : Boxed w2 w1.heap.size 189 (.map (some b1)) := (bC1.alloc _).kept gg (by simp)
  have hB2 : Below w.heap.size w w2 := ((hB1.alloc hB1.size _).alloc (by have := hB1.size; simp; omega) _).grown gg (by have := hB1.size; simp; omega) (fun k e => by cases e; have := hB1.size; omega)
  have hl5 := im5.lt
  have hl1' := hB1.size
  have hsz2 : w1.heap.size + 2 ≤ w2.heap.size := by have := gg.size; simp at this; omega
  clear im2 him1 bC1 gg hB1 hb1
  have bC2 := Boxed.new w2 189 (.map (some (w1.heap.size + 1)))
  have him3 : NineAt w w1.heap.size w2.heap.size b1 (w1.heap.size + 1) 0 ((((w2.alloc (.cells #[.map (some (w1.heap.size + 1))] 189)).alloc (.cells #[.int .i64 164, .int .i64 8364, .int .i64 166, .int .i64 352, .int .i64 168, .int .i64 353, .int .i64 180, .int .i64 381, .int .i64 184, .int .i64 382, .int .i64 188, .int .i64 338, .int .i64 189, .int .i64 339, .int .i64 190, .int .i64 376] 192)).alloc (.map #[] 0)).alloc (.cells #[.map (some (w2.heap.size + 1 + 1))] 189)) := by
    have m := IMap.made ((w2.alloc (.cells #[.map (some (w1.heap.size + 1))] 189)).alloc (.cells #[.int .i64 164, .int .i64 8364, .int .i64 166, .int .i64 352, .int .i64 168, .int .i64 353, .int .i64 180, .int .i64 381, .int .i64 184, .int .i64 382, .int .i64 188, .int .i64 338, .int .i64 189, .int .i64 339, .int .i64 190, .int .i64 376] 192)) .i64
    rw [World.size_alloc, World.size_alloc] at m
    have b4 := Boxed.new (((w2.alloc (.cells #[.map (some (w1.heap.size + 1))] 189)).alloc (.cells #[.int .i64 164, .int .i64 8364, .int .i64 166, .int .i64 352, .int .i64 168, .int .i64 353, .int .i64 180, .int .i64 381, .int .i64 184, .int .i64 382, .int .i64 188, .int .i64 338, .int .i64 189, .int .i64 339, .int .i64 190, .int .i64 376] 192)).alloc (.map #[] 0)) 189 (.map (some (w2.heap.size + 1 + 1)))
    rw [World.size_alloc, World.size_alloc, World.size_alloc] at b4
    have hs := hB2.size
    exact ⟨m.alloc _, (((him1'.alloc _).alloc _).alloc _).alloc _, (((im5.alloc _).alloc _).alloc _).alloc _, (((bC1'.alloc _).alloc _).alloc _).alloc _, ((bC2.alloc _).alloc _).alloc _, b4,
      (((hB2.alloc hs _).alloc (by simp; omega) _).alloc (by simp; omega) _).alloc (by simp; omega) _⟩
  go_loopw [24] (fun i wr => ∃ k : Nat, i = .int .i64 k ∧ k ≤ 8 ∧ NineAt w w1.heap.size w2.heap.size b1 (w1.heap.size + 1) k wr) (fun i _ => 8 - (intOf i).toNat)
  case atStart => exact ⟨0, rfl, by omega, him3⟩
  case round =>
    obtain ⟨k, rfl, hk, hN⟩ := hrel
    by_cases hlt : k < 8
    · obtain ⟨x, y, hix, hput⟩ := nine_at k hlt
      unfold nineA at hix
      have hc4 := (hN.c4.alloc (.cells #[.int .i64 x, .int .i64 y] 191)).cell
      have hbs := hN.bl.size
      have him := hN.im.alloc (.cells #[.int .i64 x, .int .i64 y] 191)
      have hN1 := Lib.hid hN
      have HP := Lib.hid hput
      have HX := Lib.hid hix
      obtain ⟨w3, hr3, im3, g3⟩ := him.update (t := 187) Tryz.underlying187 Tryz.underlying3 x (.int .i64 y)
      rw [iv_put, hput] at im3
      have HR := Lib.hid hr3
      clear hN hput hr3 him
      go_wp2_with (at_mapUpdate; refine wpList_mapUpdate_run rfl _ _ _ _ (.inl rfl) _ _ _ rfl rfl rfl _ HR.out ?_)
      have hN := hN1.out
      exact ⟨⟨k + 1, by go_num, by omega, ⟨im3, (hN.i1.alloc _).kept g3 (by simp; omega), (hN.i2.alloc _).kept g3 (by simp; omega), (hN.c1.alloc _).kept g3 (by simp; omega), (hN.c2.alloc _).kept g3 (by simp; omega), (hN.c4.alloc _).kept g3 (by simp), (hN.bl.alloc hbs _).grown g3 (by simp; omega) (fun j e => by cases e; omega)⟩⟩, by simp [intOf]; omega⟩
    · obtain rfl : k = 8 := by omega
      have hbs := hN.bl.size
      have hc1 := (hN.c1.alloc (.map #[] 0)).cell
      have hc2 := hN.c2.alloc (.map #[] 0)
      have hc4 := hN.c4.alloc (.map #[] 0)
      have im8 := IMap.made wr .i8
      have hl43 := im8.lt
      have gg := grown_refl (wr.alloc (.map #[] 0)) (some wr.heap.size)
      have hn1 := hN.i1.lt
      have hn2 := hN.i2.lt
      have hn3 := hN.im.lt
      have hn4 := hN.c4.lt
      have hn5 := hN.c2.lt
      have hn6 := hN.c1.lt
      have hN1 := Lib.hid hN
      clear hN him3 hB2 bC2 im5 him1' bC1'
      go_wp2_with (refine wpList_put_I rfl _ _ _ _ (.inr rfl) Tryz.underlying172 Tryz.underlying23 _ _ im8 _ _ rfl rfl rfl ?_; intro w3 im8 g3; have gg := grown_trans gg g3; have hc2 := hc2.kept g3 (by simp; omega); have hc4 := hc4.kept g3 (by simp; omega); have hc2c := hc2.cell; have hc4c := hc4.cell; clear g3)
      go_ret
      have hN := hN1.out
      exact ⟨wr.heap.size, b1, w1.heap.size + 1, w2.heap.size + 1 + 1, rfl, im8, (hN.i1.alloc _).kept gg (by simp; omega), (hN.i2.alloc _).kept gg (by simp; omega), (hN.im.alloc _).kept gg (by simp; omega), (hN.bl.alloc hbs _).grown gg (by simp; omega) (fun j e => by cases e; omega)⟩
end Go.Proofs.YthahfoliblgegaaGreatDoor
/- 
  The walks of single: plain, cyrillic, Scalar, Table, back, Byte.
 -/
namespace Go.Proofs.YthahfoliblgegaaGreatDoor
open Go.RowKit
theorem zInt (w : World) : (zeroValue 3).run Tryz.prog w = .ok (.int .i64 0) w := by kernel_rfl
set_option maxHeartbeats 1000000 in
theorem single_plain (b : Nat) (L : List (Int × Int)) (x : Int) (w : World) (him : IMap w .i64 b (iv L)) :
    Calls Tryz.prog 163 #[.agg #[.map (some b)], .int .i64 x] w fun e w' => e = .returned (.int .i64 (plainOf L x)) ∧ Below w.heap.size w w' := by
  have hlk := ((him.alloc (.cells #[.map (some b)] 189)).lookup (t := 187) Tryz.underlying187 Tryz.underlying3 (.int .i64 0) (zInt _) x).1
  rw [iv_get] at hlk
  cases hg : iget L x with
  | none =>
    rw [hg] at hlk
    simp only [Option.map_none, Option.getD_none, Option.isSome_none] at hlk
    have HP := Lib.hid (show plainOf L x = x by unfold plainOf; rw [hg]; rfl)
    clear hg
    go_enter Tryz.func163, Tryz.ntmps163
    go_wp2
    go_ret
    exact ⟨by rw [HP.out]; rfl, (Below.refl _ _).alloc (Nat.le_refl _) _⟩
  | some y =>
    rw [hg] at hlk
    simp only [Option.map_some, Option.getD_some, Option.isSome_some] at hlk
    have HP := Lib.hid (show plainOf L x = y by unfold plainOf; rw [hg]; rfl)
    clear hg
    go_enter Tryz.func163, Tryz.ntmps163
    go_wp2
    go_ret
    exact ⟨by rw [HP.out]; rfl, (Below.refl _ _).alloc (Nat.le_refl _) _⟩
set_option maxHeartbeats 1000000 in
theorem single_cyrillic (b : Nat) (x : Int) (w : World) (him : IMap w .i64 b (iv fiveL)) (h0 : 0 ≤ x) (h1 : x < 256) :
    Calls Tryz.prog 164 #[.agg #[.map (some b)], .int .i64 x] w fun e w' => e = .returned (.int .i64 (cyrOf x)) ∧ Below w.heap.size w w' := by
  have him1 := him.alloc (.cells #[.map (some b)] 189)
  have hlk := (him1.lookup (t := 187) Tryz.underlying187 Tryz.underlying3 (.int .i64 0) (zInt _) x).2
  rw [iv_get] at hlk
  have he : ((iget fiveL x).map (Value.int .i64)).getD (.int .i64 0) = .int .i64 ((iget fiveL x).getD 0) := by cases iget fiveL x <;> rfl
  rw [he] at hlk
  obtain ⟨y, hy⟩ : ∃ y, (iget fiveL x).getD 0 = y := ⟨_, rfl⟩
  rw [hy] at hlk
  by_cases hc : x < 161 ∨ x = 173 ∨ y ≠ 0
  · have HP := Lib.hid (show cyrOf x = plainOf fiveL x by unfold cyrOf; rw [if_pos (by rw [hy]; exact hc)])
    clear hy he
    have HI := Lib.hid him1
    by_cases c1 : x < 161
    · clear hc
      go_enter Tryz.func164, Tryz.ntmps164
      go_wp2_with (go_at_call 163; refine (single_plain b fiveL x _ HI.out).mono ?_; rintro e w1 ⟨rfl, hb1⟩)
      go_ret
      exact ⟨by rw [HP.out]; rfl, ((Below.refl _ _).alloc (Nat.le_refl _) _).trans (hb1.mono (by simp))⟩
    · by_cases c2 : x = 173
      · have hx : (x == 173) = true := by simp [c2]
        have hlt : ¬ x < 161 := c1
        clear hc c2
        go_enter Tryz.func164, Tryz.ntmps164
        go_wp2_with (go_at_call 163; refine (single_plain b fiveL x _ HI.out).mono ?_; rintro e w1 ⟨rfl, hb1⟩)
        go_ret
        exact ⟨by rw [HP.out]; rfl, ((Below.refl _ _).alloc (Nat.le_refl _) _).trans (hb1.mono (by simp))⟩
      · have hx : (x == 173) = false := by simpa using c2
        have hy0 : (y != 0) = true := by simp; omega
        clear hc c2
        go_enter Tryz.func164, Tryz.ntmps164
        go_wp2_with (go_at_call 163; refine (single_plain b fiveL x _ HI.out).mono ?_; rintro e w1 ⟨rfl, hb1⟩)
        go_ret
        exact ⟨by rw [HP.out]; rfl, ((Below.refl _ _).alloc (Nat.le_refl _) _).trans (hb1.mono (by simp))⟩
  · have HP := Lib.hid (show cyrOf x = x - 160 + 1024 by unfold cyrOf; rw [if_neg (by rw [hy]; exact hc)])
    have hx : (x == 173) = false := by simp; omega
    have hlt : ¬ x < 161 := by omega
    have hy0 : (y != 0) = false := by simp; omega
    clear hy he hc
    go_enter Tryz.func164, Tryz.ntmps164
    go_wp2
    go_ret
    exact ⟨by rw [HP.out]; rfl, (Below.refl _ _).alloc (Nat.le_refl _) _⟩
theorem zFun (w : World) : (zeroValue 168).run Tryz.prog w = .ok .nilFunc w := by kernel_rfl
/-- the encoding's telling, looked up. -/
theorem look_yes {w : World} {b : Nat} {b1 b2 b3 : Nat} (im : IMap w .i8 b [(3, fv 163 b1), (4, fv 164 b2), (5, fv 163 b3)]) :
    (Instr.lookup 172 (.map (some b)) (.int .i8 3) true).run Tryz.prog w = .ok (.tuple #[.func (.func 163) #[.agg #[.map (some b1)]] #[], .bool true]) w ∧
    (Instr.lookup 172 (.map (some b)) (.int .i8 4) true).run Tryz.prog w = .ok (.tuple #[.func (.func 164) #[.agg #[.map (some b2)]] #[], .bool true]) w ∧
    (Instr.lookup 172 (.map (some b)) (.int .i8 5) true).run Tryz.prog w = .ok (.tuple #[.func (.func 163) #[.agg #[.map (some b3)]] #[], .bool true]) w :=
  ⟨(im.lookup (t := 172) Tryz.underlying172 Tryz.underlying23 _ (zFun _) 3).1, (im.lookup (t := 172) Tryz.underlying172 Tryz.underlying23 _ (zFun _) 4).1, (im.lookup (t := 172) Tryz.underlying172 Tryz.underlying23 _ (zFun _) 5).1⟩
theorem look_no {w : World} {b : Nat} {v1 v2 v3 : Value} (im : IMap w .i8 b [(3, v1), (4, v2), (5, v3)]) (e : Int) (he : isEnc e = false) :
    (Instr.lookup 172 (.map (some b)) (.int .i8 e) true).run Tryz.prog w = .ok (.tuple #[.nilFunc, .bool false]) w := by
  have h := (im.lookup (t := 172) Tryz.underlying172 Tryz.underlying23 _ (zFun _) e).1
  have hn := of_decide_eq_false he
  have hg : aGet [(3, v1), (4, v2), (5, v3)] e = none := by
    simp only [aGet]
    rw [if_neg (by simp; omega), if_neg (by simp; omega), if_neg (by simp; omega)]
  rw [hg] at h
  exact h
def scalR (e b : Int) : Int := if isEnc e then encOf e b else 0
end Go.Proofs.YthahfoliblgegaaGreatDoor
/- 
  The encodings' tables in plain terms; which byte a scalar has. No program in sight.
 -/
namespace Go.Proofs.YthahfoliblgegaaGreatDoor
/-- an encoding's table. -/
def tabL (e : Int) : List Int := if isEnc e then (List.range 256).map fun i => encOf e (i : Nat) else []
theorem tabL_yes {e : Int} (h : isEnc e = true) : tabL e = (List.range 256).map fun i => encOf e (i : Nat) := if_pos h
theorem tabL_no {e : Int} (h : isEnc e = false) : tabL e = [] := if_neg (by rw [h]; decide)
theorem tabL_len {e : Int} (h : isEnc e = true) : (tabL e).length = 256 := by rw [tabL_yes h, List.length_map, List.length_range]
theorem tab_snoc (e : Int) (k : Nat) : ((List.range k).map fun i => encOf e (i : Nat)) ++ [encOf e k] = (List.range (k + 1)).map fun i => encOf e (i : Nat) := by
  rw [List.range_succ, List.map_append]; rfl
def backGo : Int → List (Int × Int) → List Int → List (Int × Int)
  | _, L, [] => L
  | k, L, x :: r => backGo (k + 1) (iput L x k) r
theorem backGo_snoc (x : Int) : ∀ (k : Int) (L : List (Int × Int)) (ys : List Int), backGo k L (ys ++ [x]) = iput (backGo k L ys) x (k + ys.length)
  | k, L, [] => by simp [backGo]
  | k, L, y :: ys => by
    rw [List.cons_append, backGo, backGo, backGo_snoc x (k + 1)]
    congr 1
    simp only [List.length_cons]
    omega
def backL (e : Int) : List (Int × Int) := backGo 0 [] (tabL e)
/-- a scalar's byte in an encoding. -/
def findI : List Int → Int → Int → Option Int
  | [], _, _ => none
  | y :: r, k, x => if y == x then some k else findI r (k + 1) x
def byteOf (e x : Int) : Option Int := findI (tabL e) 0 x
theorem iget_put (L : List (Int × Int)) (k v k' : Int) : iget (iput L k v) k' = if k' = k then some v else iget L k' := by
  induction L with
  | nil =>
    rw [iput, iget, iget]
    by_cases h : k' = k
    · subst h; simp
    · rw [if_neg (by simp; omega), if_neg h]; rfl
  | cons p r ih =>
    rw [iput]
    by_cases h : p.1 = k
    · rw [if_pos (by simp [h]), iget, iget]
      by_cases h' : k' = k
      · rw [if_pos h', if_pos (by simp [h, h'])]
      · rw [if_neg h', if_neg (by simp; omega), if_neg (by simp; omega)]
    · rw [if_neg (by simpa using h), iget, iget, ih]
      by_cases h' : k' = k
      · rw [if_pos h', if_pos h', if_neg (by simp; omega)]
      · rw [if_neg h', if_neg h']
theorem findI_none {xs : List Int} {x : Int} (h : x ∉ xs) : ∀ k, findI xs k x = none := by
  induction xs with
  | nil => intro k; rfl
  | cons y r ih =>
    intro k
    rw [List.mem_cons, not_or] at h
    rw [findI, if_neg (by simp; omega)]
    exact ih h.2 _
theorem back_get (x : Int) : ∀ (xs : List Int) (k : Int) (L : List (Int × Int)), xs.Nodup → iget (backGo k L xs) x = (findI xs k x).or (iget L x)
  | [], k, L, _ => rfl
  | y :: r, k, L, h => by
    rw [List.nodup_cons] at h
    rw [backGo, back_get x r (k + 1) _ h.2, findI, iget_put]
    by_cases hy : y = x
    · subst hy
      rw [findI_none h.1]
      simp
    · have e1 : ¬ x = y := fun h => hy h.symm
      simp [hy, e1]
theorem tabL_nodup (e : Int) : (tabL e).Nodup := by
  cases he : isEnc e with
  | false => rw [tabL_no he]; exact List.nodup_nil
  | true =>
    have hc := of_decide_eq_true he
    rcases hc with rfl | rfl | rfl <;> decide +kernel
theorem backL_get (e x : Int) : iget (backL e) x = byteOf e x := by
  unfold backL byteOf
  rw [back_get x _ 0 [] (tabL_nodup e)]
  cases findI (tabL e) 0 x <;> rfl
theorem tabL_le (e : Int) : (tabL e).length ≤ 256 := by
  cases he : isEnc e with
  | false => rw [tabL_no he]; decide
  | true => rw [tabL_len he]; omega
end Go.Proofs.YthahfoliblgegaaGreatDoor
/- 
  The walks of single: Table, back, Byte.
 -/
namespace Go.Proofs.YthahfoliblgegaaGreatDoor
open Go.RowKit
def TabAtSg (e : Int) (w : World) (v x : Value) (wr : World) : Prop :=
  ∃ k : Nat, x = .int .i64 k ∧ k ≤ 256 ∧ wr.ownsRow w.heap.size 3 1 v k (((List.range k).map fun i => encOf e (i : Nat)).map (Value.int .i64)) ∧ Below w.heap.size w wr
set_option maxRecDepth 100000 in
set_option maxHeartbeats 2000000 in
theorem single_Table (e : Int) (w : World) :
    Calls Tryz.prog 123 #[.int .i8 e] w fun r w' => ∃ v, r = .returned v ∧ w'.ownsRow w.heap.size 3 1 v (tabL e).length ((tabL e).map (Value.int .i64)) ∧ Below w.heap.size w w' := by
  cases he : isEnc e with
  | false =>
    have HE := Lib.hid he
    have HT := Lib.hid (tabL_no he)
    go_enter Tryz.func123, Tryz.ntmps123
    go_wp2_with (go_at_call 147; refine (single_codecs _).mono ?_; rintro e' w1 ⟨bm, b1, b2, b3, rfl, im, i1, i2, i3, hb1⟩; have hlk := look_no im e HE.out)
    go_ret
    exact ⟨_, rfl, by rw [HT.out]; exact World.ownsRow_nil _ _ _ _, hb1⟩
  | true =>
    have hc := of_decide_eq_true he
    rcases hc with rfl | rfl | rfl
    · go_enter Tryz.func123, Tryz.ntmps123
      go_wp2_with (go_at_call 147; refine (single_codecs _).mono ?_; rintro e' w1 ⟨bm, b1, b2, b3, rfl, im, i1, i2, i3, hb1⟩; have hlk := (look_yes im).1)
      go_loopw [2, 14] (fun v x wr => TabAtSg 3 w v x wr ∧ IMap wr .i64 b1 (iv winL)) (fun _ x _ => 256 - (intOf x).toNat)
      case atStart => exact ⟨⟨0, rfl, by omega, World.ownsRow_nil _ _ _ _, hb1⟩, i1⟩
      case round =>
        obtain ⟨⟨k, rfl, hk, hown, hb⟩, hi⟩ := hrel
        by_cases hlt : k < 256
        · have happ := fun (w' : World) (hb2 : Below wr.heap.size wr w') => app_int_g w' w.heap.size u2 k ((List.range k).map fun i => encOf 3 (i : Nat)) (own_below hown hb2 (Nat.le_refl _)) (encOf 3 k) (by omega) (Nat.le_trans hb.size hb2.size)
          have HAp := Lib.hid happ
          have HO := Lib.hid hown
          clear happ hown
          go_wp2_with (first
            | (at_builtin; refine wpList_append_run rfl _ _ _ _ rfl _ _ rfl rfl _ _ HR.out ?_)
            | (go_at_call 163; refine (single_plain _ _ _ _ hi).mono ?_; rintro e' w2 ⟨rfl, hb2⟩; obtain ⟨v', w3, hr, ho1, hg3⟩ := HAp.out w2 hb2; have HR := Lib.hid (show _ = _ from hr); clear hr))
          rw [tab_snoc] at ho1
          have hown2 := (own_below HO.out hb2 (Nat.le_refl _)).alloc (.cells #[.int .i64 (encOf 3 k)] 3)
          have h13 := (hb2.mono hb.size).trans (((Below.refl w.heap.size w2).alloc (Nat.le_trans hb.size hb2.size) _).trans (ownBelow hown2 hg3 (Nat.le_refl _) (by have := hb.size; have := hb2.size; simp; omega)))
          exact ⟨⟨⟨k + 1, by go_num, by omega, ho1, hb.trans h13⟩, ((hi.below hb2 (Nat.le_refl _)).alloc _).row hown2 hg3⟩, by simp [intOf]; omega⟩
        · obtain rfl : k = 256 := by omega
          go_wp2
          go_ret
          exact ⟨_, rfl, by rw [tabL_len rfl, tabL_yes rfl]; exact hown, hb⟩
    · go_enter Tryz.func123, Tryz.ntmps123
      go_wp2_with (go_at_call 147; refine (single_codecs _).mono ?_; rintro e' w1 ⟨bm, b1, b2, b3, rfl, im, i1, i2, i3, hb1⟩; have hlk := (look_yes im).2.1)
      go_loopw [2, 14] (fun v x wr => TabAtSg 4 w v x wr ∧ IMap wr .i64 b2 (iv fiveL)) (fun _ x _ => 256 - (intOf x).toNat)
      case atStart => exact ⟨⟨0, rfl, by omega, World.ownsRow_nil _ _ _ _, hb1⟩, i2⟩
      case round =>
        obtain ⟨⟨k, rfl, hk, hown, hb⟩, hi⟩ := hrel
        by_cases hlt : k < 256
        · have happ := fun (w' : World) (hb2 : Below wr.heap.size wr w') => app_int_g w' w.heap.size u2 k ((List.range k).map fun i => encOf 4 (i : Nat)) (own_below hown hb2 (Nat.le_refl _)) (encOf 4 k) (by omega) (Nat.le_trans hb.size hb2.size)
          have HAp := Lib.hid happ
          have HO := Lib.hid hown
          clear happ hown
          go_wp2_with (first
            | (at_builtin; refine wpList_append_run rfl _ _ _ _ rfl _ _ rfl rfl _ _ HR.out ?_)
            | (go_at_call 164; refine (single_cyrillic _ _ _ hi (by omega) (by omega)).mono ?_; rintro e' w2 ⟨rfl, hb2⟩; obtain ⟨v', w3, hr, ho1, hg3⟩ := HAp.out w2 hb2; have HR := Lib.hid (show _ = _ from hr); clear hr))
          rw [tab_snoc] at ho1
          have hown2 := (own_below HO.out hb2 (Nat.le_refl _)).alloc (.cells #[.int .i64 (encOf 4 k)] 3)
          have h13 := (hb2.mono hb.size).trans (((Below.refl w.heap.size w2).alloc (Nat.le_trans hb.size hb2.size) _).trans (ownBelow hown2 hg3 (Nat.le_refl _) (by have := hb.size; have := hb2.size; simp; omega)))
          exact ⟨⟨⟨k + 1, by go_num, by omega, ho1, hb.trans h13⟩, ((hi.below hb2 (Nat.le_refl _)).alloc _).row hown2 hg3⟩, by simp [intOf]; omega⟩
        · obtain rfl : k = 256 := by omega
          go_wp2
          go_ret
          exact ⟨_, rfl, by rw [tabL_len rfl, tabL_yes rfl]; exact hown, hb⟩
    · go_enter Tryz.func123, Tryz.ntmps123
      go_wp2_with (go_at_call 147; refine (single_codecs _).mono ?_; rintro e' w1 ⟨bm, b1, b2, b3, rfl, im, i1, i2, i3, hb1⟩; have hlk := (look_yes im).2.2)
      go_loopw [2, 14] (fun v x wr => TabAtSg 5 w v x wr ∧ IMap wr .i64 b3 (iv nineL)) (fun _ x _ => 256 - (intOf x).toNat)
      case atStart => exact ⟨⟨0, rfl, by omega, World.ownsRow_nil _ _ _ _, hb1⟩, i3⟩
      case round =>
        obtain ⟨⟨k, rfl, hk, hown, hb⟩, hi⟩ := hrel
        by_cases hlt : k < 256
        · have happ := fun (w' : World) (hb2 : Below wr.heap.size wr w') => app_int_g w' w.heap.size u2 k ((List.range k).map fun i => encOf 5 (i : Nat)) (own_below hown hb2 (Nat.le_refl _)) (encOf 5 k) (by omega) (Nat.le_trans hb.size hb2.size)
          have HAp := Lib.hid happ
          have HO := Lib.hid hown
          clear happ hown
          go_wp2_with (first
            | (at_builtin; refine wpList_append_run rfl _ _ _ _ rfl _ _ rfl rfl _ _ HR.out ?_)
            | (go_at_call 163; refine (single_plain _ _ _ _ hi).mono ?_; rintro e' w2 ⟨rfl, hb2⟩; obtain ⟨v', w3, hr, ho1, hg3⟩ := HAp.out w2 hb2; have HR := Lib.hid (show _ = _ from hr); clear hr))
          rw [tab_snoc] at ho1
          have hown2 := (own_below HO.out hb2 (Nat.le_refl _)).alloc (.cells #[.int .i64 (encOf 5 k)] 3)
          have h13 := (hb2.mono hb.size).trans (((Below.refl w.heap.size w2).alloc (Nat.le_trans hb.size hb2.size) _).trans (ownBelow hown2 hg3 (Nat.le_refl _) (by have := hb.size; have := hb2.size; simp; omega)))
          exact ⟨⟨⟨k + 1, by go_num, by omega, ho1, hb.trans h13⟩, ((hi.below hb2 (Nat.le_refl _)).alloc _).row hown2 hg3⟩, by simp [intOf]; omega⟩
        · obtain rfl : k = 256 := by omega
          go_wp2
          go_ret
          exact ⟨_, rfl, by rw [tabL_len rfl, tabL_yes rfl]; exact hown, hb⟩
end Go.Proofs.YthahfoliblgegaaGreatDoor
/- 
  The walks of single: back, Byte; which byte a scalar has.
 -/
namespace Go.Proofs.YthahfoliblgegaaGreatDoor
open Go.RowKit
def ivb (L : List (Int × Int)) : List (Int × Value) := L.map fun p => (p.1, .int .u8 p.2)
theorem ivb_get (L : List (Int × Int)) (k : Int) : aGet (ivb L) k = (iget L k).map (Value.int .u8) := by
  induction L with
  | nil => rfl
  | cons p r ih =>
    show aGet ((p.1, Value.int .u8 p.2) :: ivb r) k = _
    rw [aGet, iget]
    split
    · rfl
    · exact ih
theorem ivb_put (L : List (Int × Int)) (k v : Int) : aPut (ivb L) k (.int .u8 v) = ivb (iput L k v) := by
  induction L with
  | nil => rfl
  | cons p r ih =>
    show aPut ((p.1, Value.int .u8 p.2) :: ivb r) k _ = _
    rw [aPut, iput]
    split
    · rfl
    · rw [ih]; rfl
set_option maxRecDepth 100000 in
set_option maxHeartbeats 2000000 in
theorem single_back (e : Int) (w : World) :
    Calls Tryz.prog 87 #[.int .i8 e] w fun r w' => ∃ b, r = .returned (.map (some b)) ∧ IMap w' .i64 b (ivb (backL e)) ∧ Below w.heap.size w w' := by
  have hmm := @run_makeMap Tryz.prog
  have hlen := tabL_le e
  obtain ⟨T, hT⟩ : ∃ T, tabL e = T := ⟨_, rfl⟩
  rw [hT] at hlen
  have HT := Lib.hid hT
  have HBk := Lib.hid (show backL e = backGo 0 [] T by unfold backL; rw [hT])
  clear hT
  go_enter Tryz.func87, Tryz.ntmps87
  go_wp2_with (go_at_call 123; refine (single_Table e _).mono ?_; rw [HT.out]; rintro e' w1 ⟨v, rfl, hown, hb1⟩; obtain ⟨a, cap, rfl, _, hc⟩ := (Reads.of_own hown (by unfold maxLen; omega)).open)
  have him := (IMap.made w .i64).below (hb1.mono (Nat.le_refl _)) (by simp)
  have hB1 : Below w.heap.size w w1 := ((Below.refl _ w).alloc (Nat.le_refl _) _).trans (hb1.mono (by simp))
  go_loopw [10] (fun x wr => ∃ k : Nat, x = .int .i64 k ∧ k ≤ T.length ∧ IMap wr .i64 w.heap.size (ivb (backGo 0 [] (T.take k))) ∧ w1.grownBy wr (some w.heap.size)) (fun x _ => T.length - (intOf x).toNat)
  case atStart => exact ⟨0, rfl, by omega, him, grown_refl _ _⟩
  case round =>
    obtain ⟨k, rfl, hk, him, hg⟩ := hrel
    by_cases hlt : k < T.length
    · obtain ⟨b, off, rfl, hbB, hcx⟩ := hc k hlt
      have hne : b ≠ w.heap.size := by have := (hown.lt b rfl).1; simp at this; omega
      have hcx1 := hg.cell hcx (by simpa using hne)
      obtain ⟨x, hx⟩ : ∃ x, T[k] = x := ⟨_, rfl⟩
      rw [hx] at hcx1
      have hs : backGo 0 [] (T.take (k + 1)) = iput (backGo 0 [] (T.take k)) x k := by
        rw [take_snocL T k hlt, hx, backGo_snoc, List.length_take, Nat.min_eq_left hk]; simp
      obtain ⟨w3, hr3, him3, hg3⟩ := him.update (t := 115) Tryz.underlying115 Tryz.underlying3 x (.int .u8 k)
      rw [ivb_put, ← hs] at him3
      have HR := Lib.hid hr3
      have hk256 : (k : Int) % 256 = k := by omega
      clear hr3 hs hx hc hcx hown
      go_wp2_with (at_mapUpdate; refine wpList_mapUpdate_run rfl _ _ _ _ (.inl rfl) _ _ _ rfl rfl rfl _ HR.out ?_)
      exact ⟨⟨k + 1, by go_num, by omega, him3, grown_trans hg hg3⟩, by simp [intOf]; omega⟩
    · obtain rfl : k = T.length := by omega
      rw [List.take_length] at him
      clear hc hown
      go_wp2
      go_ret
      exact ⟨_, rfl, by rw [HBk.out]; exact him, hB1.grown hg hB1.size (fun j e => by cases e; exact Nat.le_refl _)⟩
theorem zU8 (w : World) : (zeroValue 5).run Tryz.prog w = .ok (.int .u8 0) w := by kernel_rfl
end Go.Proofs.YthahfoliblgegaaGreatDoor
/- 
  The walks of the reference's single: iso5, iso15, high, Scalar, Table, Byte.
 -/
namespace Go.Proofs.YthahfoliblgegaaGreatDoor
open Go.RowKit
theorem cyr_eq (x : Int) : cyrOf x = if x < 161 ∨ x = 173 then x else if x = 240 then 8470 else if x = 253 then 167 else x - 160 + 1024 := by
  unfold cyrOf plainOf
  by_cases h1 : x = 240
  · subst h1; rfl
  · by_cases h2 : x = 253
    · subst h2; rfl
    · have hg : iget fiveL x = none := by
        unfold fiveL
        simp only [iget]
        rw [if_neg (by simp; omega), if_neg (by simp; omega)]
      simp [hg, h1, h2]
theorem nine_eq (x : Int) : plainOf nineL x = if x = 164 then 8364 else if x = 166 then 352 else if x = 168 then 353 else if x = 180 then 381 else if x = 184 then 382 else if x = 188 then 338 else if x = 189 then 339 else if x = 190 then 376 else x := by
  unfold plainOf nineL
  simp only [iget, beq_iff_eq, eq_comm (b := x)]
  (repeat' split) <;> rfl
theorem iget_odd (b : Int) : ∀ (k : Int) (L : List (Int × Int)) (xs : List Int), iget (oddGo k L xs) b = if k ≤ b ∧ b < k + xs.length then xs[(b - k).toNat]? else iget L b
  | k, L, [] => by rw [oddGo, if_neg (by rw [List.length_nil]; omega)]
  | k, L, x :: xs => by
    rw [oddGo, iget_odd b (k + 1), iget_put]
    simp only [List.length_cons]
    by_cases h : b = k
    · subst h
      rw [if_neg (by omega), if_pos rfl, if_pos (by omega)]
      simp
    · rw [if_neg h]
      by_cases h2 : k + 1 ≤ b ∧ b < k + 1 + xs.length
      · rw [if_pos h2, if_pos (by omega)]
        have : (b - k).toNat = (b - (k + 1)).toNat + 1 := by omega
        rw [this, List.getElem?_cons_succ]
      · rw [if_neg h2, if_neg (by omega)]
theorem win_eq (b : Int) : plainOf winL b = if 128 ≤ b ∧ b < 160 then (winX[(b - 128).toNat]?).getD b else b := by
  unfold plainOf winL
  rw [iget_odd]
  have : (winX.length : Int) = 32 := rfl
  rw [this]
  by_cases h : 128 ≤ b ∧ b < 128 + 32
  · rw [if_pos h, if_pos (by omega)]
  · rw [if_neg h, if_neg (by omega)]; rfl
set_option maxHeartbeats 1000000 in
theorem ref04_iso5 (x : Int) (w : World) (h0 : 0 ≤ x) (h1 : x < 256) :
    Calls Tryz.prog 150 #[.int .i64 x] w fun r w' => r = .returned (.int .i64 (cyrOf x)) ∧ w = w' := by
  have HC := Lib.hid (cyr_eq x)
  go_enter Tryz.func150, Tryz.ntmps150
  go_wp2
  all_goals
    go_light
    (try simp only [beq_iff_eq, beq_eq_false_iff_ne] at *)
    go_ret
    refine ⟨ret_int ?_, rfl⟩
    rw [HC.out]
    (repeat' split) <;> first | rfl | omega
set_option maxHeartbeats 1000000 in
theorem ref04_iso15 (x : Int) (w : World) :
    Calls Tryz.prog 151 #[.int .i64 x] w fun r w' => r = .returned (.int .i64 (plainOf nineL x)) ∧ w = w' := by
  have HC := Lib.hid (nine_eq x)
  go_enter Tryz.func151, Tryz.ntmps151
  go_wp2
  all_goals
    go_light
    (try simp only [beq_iff_eq, beq_eq_false_iff_ne] at *)
    go_ret
    refine ⟨ret_int ?_, rfl⟩
    rw [HC.out]
    (repeat' split) <;> first | rfl | omega
set_option maxHeartbeats 1000000 in
theorem ref04_high (w : World) :
    Calls Tryz.prog 149 #[] w fun r w' => ∃ b, r = .returned (.slice (some ⟨b, 0, none⟩) 32 32) ∧ (∀ i (h : i < winX.length), w'.cell? ⟨b, i, none⟩ = some (.int .i64 winX[i])) ∧ Below w.heap.size w w' := by
  go_enter Tryz.func149, Tryz.ntmps149
  go_wp2
  go_ret
  refine ⟨w.heap.size, rfl, fun i hi => ?_, (Below.refl _ _).alloc (Nat.le_refl _) _⟩
  rw [World.cell?_alloc_mark]
  have hL : (winX.map (Value.int .i64))[i]? = some (.int .i64 winX[i]) := by rw [List.getElem?_map, List.getElem?_eq_getElem hi]; rfl
  rw [← hL, ← Array.getElem?_toList]
  rfl
set_option maxHeartbeats 2000000 in
theorem ref04_Scalar (e b : Int) (w : World) (h0 : 0 ≤ b) (h1 : b < 256) :
    Calls Tryz.prog 127 #[.int .i8 e, .int .u8 b] w fun r w' => r = .returned (.tuple #[.int .i64 (scalR e b), .bool (isEnc e)]) ∧ Below w.heap.size w w' := by
  by_cases e3 : e = 3
  · subst e3
    by_cases hb : 128 ≤ b ∧ b < 160
    · obtain ⟨hb1, hb2⟩ := hb
      have hi : (b - 128).toNat < winX.length := by show _ < 32; omega
      obtain ⟨y, hy⟩ : ∃ y, winX[(b - 128).toNat] = y := ⟨_, rfl⟩
      have HR := Lib.hid (show scalR 3 b = y by
        show plainOf winL b = y
        rw [win_eq, if_pos ⟨hb1, hb2⟩, List.getElem?_eq_getElem hi, hy]; rfl)
      obtain ⟨k, rfl⟩ : ∃ k : Nat, b = 128 + k := ⟨(b - 128).toNat, by omega⟩
      have hk : (128 + (k : Int) - 128).toNat = k := by omega
      have hyk : ∀ (W : World) (bb : Nat), (∀ i (h : i < winX.length), W.cell? ⟨bb, i, none⟩ = some (.int .i64 winX[i])) → W.cell? ⟨bb, k, none⟩ = some (.int .i64 y) := by
        intro W bb hW
        have := hW k (by rw [hk] at hi; exact hi)
        rw [this, ← hy]; simp only [hk]
      have HY := Lib.hid hyk
      have hk32 : k < 32 := by omega
      clear hy hi hyk hk
      go_enter Tryz.func127, Tryz.ntmps127
      go_wp2_with (go_at_call 149; refine (ref04_high _).mono ?_; rintro e' w1 ⟨bb, rfl, hc, hb1'⟩; have hcell := HY.out _ _ hc; clear hc)
      go_ret2
      exact ⟨by rw [HR.out]; rfl, hb1'⟩
    · have HR := Lib.hid (show scalR 3 b = b by show plainOf winL b = b; rw [win_eq, if_neg hb])
      by_cases hb1 : b < 128
      · clear hb
        go_enter Tryz.func127, Tryz.ntmps127
        go_wp2
        go_ret2
        exact ⟨by rw [HR.out]; rfl, Below.refl _ _⟩
      · have hb2 : 160 ≤ b := by omega
        clear hb
        go_enter Tryz.func127, Tryz.ntmps127
        go_wp2
        go_ret2
        exact ⟨by rw [HR.out]; rfl, Below.refl _ _⟩
  · by_cases e4 : e = 4
    · subst e4
      have HR := Lib.hid (show scalR 4 b = cyrOf b from rfl)
      go_enter Tryz.func127, Tryz.ntmps127
      go_wp2_with (go_at_call 150; refine (ref04_iso5 b _ h0 h1).mono ?_; rintro e' w1 ⟨rfl, rfl⟩)
      go_ret2
      exact ⟨by rw [HR.out]; rfl, Below.refl _ _⟩
    · by_cases e5 : e = 5
      · subst e5
        have HR := Lib.hid (show scalR 5 b = plainOf nineL b from rfl)
        go_enter Tryz.func127, Tryz.ntmps127
        go_wp2_with (go_at_call 151; refine (ref04_iso15 b _).mono ?_; rintro e' w1 ⟨rfl, rfl⟩)
        go_ret2
        exact ⟨by rw [HR.out]; rfl, Below.refl _ _⟩
      · have he : isEnc e = false := decide_eq_false (by omega)
        have HR := Lib.hid (show scalR e b = 0 by unfold scalR; rw [he]; rfl)
        have HE := Lib.hid he
        have c3 : (e == 3) = false := by simpa using e3
        have c4 : (e == 4) = false := by simpa using e4
        have c5 : (e == 5) = false := by simpa using e5
        clear e3 e4 e5 he
        go_enter Tryz.func127, Tryz.ntmps127
        go_wp2
        go_ret2
        exact ⟨by rw [HR.out, HE.out]; rfl, Below.refl _ _⟩
set_option maxRecDepth 100000 in
set_option maxHeartbeats 2000000 in
theorem ref04_Table (e : Int) (w : World) :
    Calls Tryz.prog 84 #[.int .i8 e] w fun r w' => ∃ v, r = .returned v ∧ w'.ownsRow w.heap.size 3 1 v (tabL e).length ((tabL e).map (Value.int .i64)) ∧ Below w.heap.size w w' := by
  cases he : isEnc e with
  | false =>
    have HE := Lib.hid he
    have HT := Lib.hid (tabL_no he)
    go_enter Tryz.func84, Tryz.ntmps84
    go_wp2
    refine wp_loop_rounds 1 ?_
    rw [rounds_succ]
    go_wp2_with (go_at_call 127; refine (ref04_Scalar e _ _ (by omega) (by omega)).mono ?_; rw [HE.out]; rintro e' w1 ⟨rfl, hb1⟩)
    go_ret
    exact ⟨_, rfl, by rw [HT.out]; exact World.ownsRow_nil _ _ _ _, hb1⟩
  | true =>
    have HE := Lib.hid he
    have HL := Lib.hid (tabL_len he)
    have HT := Lib.hid (tabL_yes he)
    clear he
    go_enter Tryz.func84, Tryz.ntmps84
    go_wp2
    go_loopw [3, 4] (fun v x wr => TabAtSg e w v x wr) (fun _ x _ => 256 - (intOf x).toNat)
    case atStart => exact ⟨0, rfl, by omega, World.ownsRow_nil _ _ _ _, Below.refl _ _⟩
    case round =>
      obtain ⟨k, rfl, hk, hown, hb⟩ := hrel
      by_cases hlt : k < 256
      · have happ := fun (w' : World) (hb2 : Below wr.heap.size wr w') => app_int w' w.heap.size u3 k ((List.range k).map fun i => encOf e (i : Nat)) (own_below hown hb2 (Nat.le_refl _)) (scalR e k) (by omega) (Nat.le_trans hb.size hb2.size)
        have HAp := Lib.hid happ
        have hk256 : (k : Int) % 256 = k := by omega
        have HS := Lib.hid (show scalR e k = encOf e k by unfold scalR; rw [HE.out]; rfl)
        clear happ hown
        go_wp2_with (first
          | (at_builtin; refine wpList_append_run rfl _ _ _ _ rfl _ _ rfl rfl _ _ HR.out ?_)
          | (go_at_call 127; refine (ref04_Scalar e _ _ (by omega) (by omega)).mono ?_; rw [HE.out]; rintro e' w2 ⟨rfl, hb2⟩; obtain ⟨v', w3, hr, ho1, hb3, _⟩ := HAp.out w2 hb2; have HR := Lib.hid (show _ = _ from hr); clear hr))
        rw [HS.out, tab_snoc] at ho1
        exact ⟨⟨k + 1, by go_num, by omega, ho1, hb.trans ((hb2.mono hb.size).trans hb3)⟩, by simp [intOf]; omega⟩
      · obtain rfl : k = 256 := by omega
        go_wp2
        go_ret
        exact ⟨_, rfl, by rw [HL.out, HT.out]; exact hown, hb⟩
theorem findI_take {xs : List Int} {x : Int} : ∀ (k : Nat) (j : Int), (∀ y ∈ xs.take k, y ≠ x) → findI xs j x = findI (xs.drop k) (j + k) x := by
  induction xs with
  | nil => intro k j _; simp [findI]
  | cons y r ih =>
    intro k j h
    cases k with
    | zero => simp
    | succ k =>
      rw [List.take_succ_cons] at h
      have h1 := h y (List.mem_cons_self ..)
      rw [findI, if_neg (by simpa using h1), List.drop_succ_cons, ih k (j + 1) (fun z hz => h z (List.mem_cons_of_mem _ hz))]
      congr 1
      omega
set_option maxRecDepth 100000 in
set_option maxHeartbeats 2000000 in
theorem ref04_Byte (e x : Int) (w : World) :
    Calls Tryz.prog 91 #[.int .i8 e, .int .i64 x] w fun r w' => r = .returned (.tuple #[.int .u8 ((byteOf e x).getD 0), .bool (byteOf e x).isSome]) ∧ Below w.heap.size w w' := by
  have hlen := tabL_le e
  obtain ⟨T, hT⟩ : ∃ T, tabL e = T := ⟨_, rfl⟩
  rw [hT] at hlen
  have HT := Lib.hid hT
  have HBk := Lib.hid (show byteOf e x = findI T 0 x by unfold byteOf; rw [hT])
  clear hT
  go_enter Tryz.func91, Tryz.ntmps91
  go_wp2_with (go_at_call 84; refine (ref04_Table e _).mono ?_; rw [HT.out]; rintro e' w1 ⟨v, rfl, hown, hb1⟩; obtain ⟨a, cap, rfl, _, hc⟩ := (Reads.of_own hown (by unfold maxLen; omega)).open)
  clear hown
  go_loop [7] (fun i => ∃ k : Nat, i = .int .i64 k ∧ k ≤ T.length ∧ ∀ y ∈ T.take k, y ≠ x) (fun i => T.length - (intOf i).toNat)
  case atStart => exact ⟨0, rfl, by omega, fun y hy => by simp at hy⟩
  case round =>
    obtain ⟨k, rfl, hk, hno⟩ := hrel
    by_cases hlt : k < T.length
    · obtain ⟨b, off, rfl, hbB, hcx⟩ := hc k hlt
      obtain ⟨y, hy⟩ : ∃ y, T[k] = y := ⟨_, rfl⟩
      rw [hy] at hcx
      by_cases hyx : y = x
      · have hf : findI T 0 x = some (k : Int) := by
          rw [findI_take k 0 hno, List.drop_eq_getElem_cons hlt, hy, findI, if_pos (by simp [hyx])]
          simp
        have HF := Lib.hid hf
        have hk256 : (k : Int) % 256 = k := by omega
        have hxy : (y == x) = true := by simp [hyx]
        clear hc hf hno hy hyx
        go_wp2
        go_ret2
        exact ⟨by rw [HBk.out, HF.out]; rfl, hb1⟩
      · have hn1 : ∀ z ∈ T.take (k + 1), z ≠ x := by
          intro z hz
          rw [take_snocL T k hlt, List.mem_append, List.mem_singleton] at hz
          rcases hz with hz | rfl
          · exact hno z hz
          · rw [hy]; exact hyx
        have HN := Lib.hid hn1
        have hxy : (y == x) = false := by simpa using hyx
        clear hc hn1 hno hy hyx
        go_wp2
        exact ⟨⟨k + 1, by go_num, by omega, HN.out⟩, by simp [intOf]; omega⟩
    · obtain rfl : k = T.length := by omega
      have hf : findI T 0 x = none := by
        rw [findI_take T.length 0 hno, List.drop_length]; rfl
      have HF := Lib.hid hf
      clear hc hf hno
      go_wp2
      go_ret2
      exact ⟨by rw [HBk.out, HF.out]; rfl, hb1⟩
end Go.Proofs.YthahfoliblgegaaGreatDoor
/- 
  The walks of layer 4's statements: wakes, SingleTells, SingleOnce.
 -/
namespace Go.Proofs.YthahfoliblgegaaGreatDoor
open Go.RowKit
theorem u8_lo {b : Int} (h : (Lit.int .u8 b).wf = true) : 0 ≤ b := by
  have h1 : (decide (IntKind.min .u8 ≤ b) && decide (b ≤ IntKind.max .u8)) = true := h
  have h2 : (IntKind.min .u8 : Int) = 0 := by decide
  rw [Bool.and_eq_true, decide_eq_true_eq, decide_eq_true_eq, h2] at h1
  exact h1.1
theorem u8_hi {b : Int} (h : (Lit.int .u8 b).wf = true) : b < 256 := by
  have h1 : (decide (IntKind.min .u8 ≤ b) && decide (b ≤ IntKind.max .u8)) = true := h
  have h2 : (IntKind.max .u8 : Int) = 255 := by decide
  rw [Bool.and_eq_true, decide_eq_true_eq, decide_eq_true_eq, h2] at h1
  omega
theorem findI_at {T : List Int} (hn : T.Nodup) (k : Nat) (h : k < T.length) (j : Int) : findI T j T[k] = some (j + k) := by
  rw [findI_take k j, List.drop_eq_getElem_cons h, findI, if_pos (by simp)]
  intro y hy hyx
  subst hyx
  have h1 : T = T.take k ++ T[k] :: T.drop (k + 1) := by rw [← List.drop_eq_getElem_cons h, List.take_append_drop]
  rw [h1] at hn
  exact (List.nodup_append.mp hn).2.2 _ hy _ (List.mem_cons_self ..) rfl
theorem tab_at {e : Int} (he : isEnc e = true) (k : Nat) (h : k < (tabL e).length) : (tabL e)[k] = encOf e k := by
  have := tabL_yes he
  simp [this]
theorem byte_enc {e : Int} (he : isEnc e = true) (b : Int) (h0 : 0 ≤ b) (h1 : b < 256) : byteOf e (encOf e b) = some b := by
  obtain ⟨k, rfl⟩ := Int.eq_ofNat_of_zero_le h0
  have hl : k < (tabL e).length := by rw [tabL_len he]; omega
  rw [← tab_at he k hl]
  have h := findI_at (tabL_nodup e) k hl 0
  rw [Int.zero_add] at h
  exact h
theorem enc_inj {e : Int} (he : isEnc e = true) (a b : Int) (h0 : 0 ≤ a) (h1 : a < 256) (h2 : 0 ≤ b) (h3 : b < 256) (h : encOf e a = encOf e b) : a = b := by
  have ha := byte_enc he a h0 h1
  rw [h, byte_enc he b h2 h3] at ha
  exact (Option.some.inj ha).symm
end Go.Proofs.YthahfoliblgegaaGreatDoor
/- 
  The walk of utf8.Text.
 -/
namespace Go.Proofs.YthahfoliblgegaaGreatDoor
open Go.RowKit
set_option maxHeartbeats 1000000 in
theorem utf8_Text (v : Value) (xs : List Int) (B : Nat) (w : World) (hr : Reads B w v (xs.map (Value.int .i64))) (hB : B ≤ w.heap.size) (hl : xs.length ≤ 137438953472) :
    Calls Tryz.prog 124 #[v] w fun e w' => e = .returned (.tuple #[.string (textS xs), .bool (scAll xs)]) ∧ Below w.heap.size w w' := by
  obtain ⟨_, a, cap, rfl, hc⟩ := hr
  rw [List.length_map] at *
  go_enter Tryz.func124, Tryz.ntmps124
  go_wp2_with fail
  go_loopw [4, 11] (fun v i wr => TextAt xs w v i wr) (fun _ i _ => xs.length - (intOf i).toNat)
  case atStart => exact ⟨0, rfl, by omega, rfl, World.ownsRow_nil _ _ _ _, Below.refl _ _⟩
  case round =>
    obtain ⟨k, rfl, hk, hok, hown, hb⟩ := hrel
    by_cases hlt : k < xs.length
    · obtain ⟨b, off, rfl, hbB, hcell⟩ : ∃ b off, a = some ⟨b, off, none⟩ ∧ b < B ∧ ∀ i (h : i < xs.length), w.cell? ⟨b, off + i, none⟩ = some (.int .i64 xs[i]) := by
        rcases hc with h | ⟨b, off, e, hb, h⟩
        · rw [List.map_eq_nil_iff] at h; subst h; simp at hlt
        · exact ⟨b, off, e, hb, fun i hi => by rw [h i (by rw [List.length_map]; exact hi), List.getElem_map]⟩
      have hc1 : wr.cell? ⟨b, off + k, none⟩ = some (.int .i64 xs[k]) := (hb.cell (p := ⟨b, off + k, none⟩) (by exact Nat.lt_of_lt_of_le hbB hB)).trans (hcell k hlt)
      obtain ⟨x, hx⟩ : ∃ x, xs[k] = x := ⟨_, rfl⟩
      rw [hx] at hc1
      clear hc hcell
      cases hsx : isSc x with
      | false =>
        have hall : scAll xs = false := scAll_take hlt (by rw [hx]; exact hsx)
        have HT := Lib.hid (textS_no hall)
        have HA := Lib.hid hall
        have HS := Lib.hid hsx
        clear hall hsx hok hx
        go_wp2_with (go_at_call 118; refine (utf8_Put x _).mono ?_; rw [HS.out]; rintro e w' ⟨rfl, hb2⟩)
        go_ret2
        exact ⟨by rw [HA.out, HT.out]; rfl, hb.trans (hb2.mono hb.size)⟩
      | true =>
        have hlen := encAll_len (xs.take k)
        rw [List.length_take, Nat.min_eq_left hk] at hlen
        have hel := encN_len x
        have hsz := encS_size x
        have hnew : xs.take (k + 1) = xs.take k ++ [x] := by rw [take_snoc xs k hlt, hx]
        have happ := fun (w' : World) (hb2 : Below wr.heap.size wr w') => app_str w' w.heap.size u4 _ _ (own_below hown hb2 (Nat.le_refl _)) (encS x) (by omega) (Nat.le_trans hb.size hb2.size)
        have hfin : ∀ (w1 : World) (v' i : Value), i = .int .i64 (k + 1 : Nat) → w1.ownsRow w.heap.size 5 1 v' ((encAll (xs.take k)).length + (encS x).size) ((encAll (xs.take k) ++ (encS x).data.toList.map fun c => (c.toNat : Int)).map (Value.int .u8)) → Below w.heap.size wr w1 → TextAt xs w v' i w1 := by
          intro w1 v' i hi ho hb1
          rw [encS_nums, encS_size, ← encAll_snoc, ← hnew] at ho
          refine ⟨k + 1, hi, hlt, by rw [hnew, scAll_snoc, hok, hsx]; rfl, ?_, hb.trans hb1⟩
          have e : (encAll (xs.take (k + 1))).length = (encAll (xs.take k)).length + (encN x).length := by rw [hnew, encAll_snoc, List.length_append]
          rw [e]; exact ho
        have HS := Lib.hid hsx
        have HF := Lib.hid hfin
        have HAp := Lib.hid happ
        clear hsx hfin happ hnew hsz hel hlen hown hok hx
        go_wp2_with (first
          | (at_builtin; refine wpList_append_run rfl _ _ _ _ rfl _ _ rfl rfl _ _ HR.out ?_)
          | (go_at_call 118; refine (utf8_Put x _).mono ?_; rw [HS.out]; rintro e w' ⟨rfl, hb2⟩; obtain ⟨v', w1, hr, ho1, hb1⟩ := HAp.out w' hb2; have HR := Lib.hid hr; clear hr))
        exact ⟨HF.out _ _ _ (by go_num) ho1 ((hb2.mono hb.size).trans hb1), by simp [intOf]; omega⟩
    · obtain rfl : k = xs.length := by omega
      rw [List.take_length] at hok hown
      have hconv := conv_own wr w.heap.size u4 _ _ hown
      have HT := Lib.hid (textS_yes hok)
      have HA := Lib.hid hok
      clear hown hok hc
      go_wp2
      go_ret2
      exact ⟨by rw [HT.out, HA.out]; rfl, hb⟩
end Go.Proofs.YthahfoliblgegaaGreatDoor
/- 
  The walks of Decode, in single and in the reference.
 -/
namespace Go.Proofs.YthahfoliblgegaaGreatDoor
open Go.RowKit
def decL (e : Int) (s : ByteArray) : List Int := (nums s).map (encOf e)
def decS (e : Int) (s : ByteArray) : ByteArray := if isEnc e then textS (decL e s) else ⟨#[]⟩
def decC (e : Int) : Int := if isEnc e then 0 else 2
theorem decL_length (e : Int) (s : ByteArray) : (decL e s).length = s.size := by unfold decL; rw [List.length_map, nums_length]
theorem decL_at (e : Int) (s : ByteArray) (k : Nat) (h : k < s.size) : (decL e s)[k]? = some (encOf e (s[k].toNat : Int)) := by
  have h1 := nums_drop s k h
  have h2 : (nums s)[k]? = some (s[k].toNat : Int) := by
    have := congrArg List.head? h1
    rw [List.head?_drop] at this
    exact this
  unfold decL
  rw [List.getElem?_map, h2]
  rfl
theorem decL_snoc (e : Int) (s : ByteArray) (k : Nat) (h : k < s.size) : (decL e s).take (k + 1) = (decL e s).take k ++ [encOf e (s[k].toNat : Int)] := by
  rw [List.take_add_one, decL_at e s k h]
  rfl
theorem byte_lt (s : ByteArray) (k : Nat) (h : k < s.size) : s[k].toNat < 256 := s[k].toBitVec.isLt
theorem tab_open {e : Int} (he : isEnc e = true) : ∃ T, tabL e = T ∧ T.length = 256 ∧ ∀ (k : Nat) (h : k < T.length), T[k] = encOf e k :=
  ⟨_, rfl, tabL_len he, fun k h => tab_at he k h⟩
/-- the row of s.size places, of which k are filled. -/
def fillD (e : Int) (s : ByteArray) (k : Nat) : List Int := (decL e s).take k ++ List.replicate (s.size - k) 0
theorem fillD_length (e : Int) (s : ByteArray) (k : Nat) (h : k ≤ s.size) : (fillD e s k).length = s.size := by
  unfold fillD
  rw [List.length_append, List.length_take, List.length_replicate, decL_length]
  omega
theorem fillD_zero (e : Int) (s : ByteArray) : fillD e s 0 = List.replicate s.size 0 := by unfold fillD; simp
theorem fillD_end (e : Int) (s : ByteArray) : fillD e s s.size = decL e s := by
  unfold fillD
  rw [Nat.sub_self, List.replicate_zero, List.append_nil, List.take_of_length_le (by rw [decL_length]; omega)]
theorem fillD_step (e : Int) (s : ByteArray) (k : Nat) (h : k < s.size) : fillD e s (k + 1) = (fillD e s k).set k (encOf e (s[k].toNat : Int)) := by
  unfold fillD
  rw [decL_snoc e s k h, List.set_append_right _ _ (by rw [List.length_take]; omega), List.length_take, decL_length, Nat.min_eq_left (by omega), Nat.sub_self]
  rw [show s.size - k = (s.size - (k + 1)) + 1 by omega, List.replicate_succ, List.set_cons_zero, List.append_assoc]
  rfl
set_option maxRecDepth 100000 in
set_option maxHeartbeats 2000000 in
theorem ref04_Decode (e : Int) (s : ByteArray) (w : World) (hs : s.size ≤ 1000000) :
    Calls Tryz.prog 42 #[.int .i8 e, .string s] w fun r w' => r = .returned (.tuple #[.string (decS e s), .int .i64 (decC e)]) ∧ Below w.heap.size w w' := by
  cases he : isEnc e with
  | false =>
    have HT := Lib.hid (tabL_no he)
    have HD := Lib.hid (show decS e s = ⟨#[]⟩ by unfold decS; rw [he]; rfl)
    have HC := Lib.hid (show decC e = 2 by unfold decC; rw [he]; rfl)
    go_enter Tryz.func42, Tryz.ntmps42
    go_wp2_with fail
    refine (ref04_Table _ _).mono ?_
    rw [HT.out]
    rintro e' w1 ⟨v, rfl, ho, hb⟩
    obtain ⟨a, cap, rfl, hl, hc⟩ := (Reads.of_own ho (by unfold maxLen; simp)).open
    clear ho hc
    go_wp2
    go_ret2
    exact ⟨by rw [HD.out, HC.out]; rfl, hb⟩
  | true =>
    obtain ⟨T, hT, hTl, hTa⟩ := tab_open he
    have HT := Lib.hid hT
    have HA := Lib.hid hTa
    clear hT hTa
    have HD := Lib.hid (show decS e s = textS (decL e s) by unfold decS; rw [he]; rfl)
    have HC := Lib.hid (show decC e = 0 by unfold decC; rw [he]; rfl)
    go_enter Tryz.func42, Tryz.ntmps42
    go_wp2_with fail
    refine (ref04_Table _ _).mono ?_
    rw [HT.out]
    rintro e' w1 ⟨v, rfl, ho, hb1⟩
    obtain ⟨a, cap, rfl, hl, hc⟩ := (Reads.of_own ho (by unfold maxLen; omega)).open
    have hT0 : ((T.length : Int) == 0) = false := by rw [hTl]; rfl
    clear ho
    go_wp2_with fail
    go_loopw [7, 8] (fun v i wr => ∃ k : Nat, i = .int .i64 k ∧ k ≤ s.size ∧ wr.ownsRow w1.heap.size 3 1 v k (((decL e s).take k).map (Value.int .i64)) ∧ Below w1.heap.size w1 wr) (fun _ i _ => s.size - (intOf i).toNat)
    case atStart => exact ⟨0, rfl, by omega, World.ownsRow_nil _ _ _ _, Below.refl _ _⟩
    case round =>
      obtain ⟨k, rfl, hk, hown, hb⟩ := hrel
      by_cases hlt : k < s.size
      · obtain ⟨b, off, rfl, hbB, hcx⟩ := hc s[k].toNat (by have := byte_lt s k hlt; omega)
        rw [HA.out] at hcx
        have hcx1 := (hb.cell (p := ⟨b, off + s[k].toNat, none⟩) (by simpa using hbB)).trans hcx
        have hd3 := byte_lt s k hlt
        have hsn := decL_snoc e s k hlt
        obtain ⟨c, hc'⟩ : ∃ c, s[k].toNat = c := ⟨_, rfl⟩
        have hidx := index_str s k hlt (c : Int) k (by rw [hc']) rfl
        rw [hc'] at hcx1 hd3 hsn
        obtain ⟨x, hx⟩ : ∃ x, encOf e (c : Int) = x := ⟨_, rfl⟩
        rw [hx] at hcx1 hsn
        obtain ⟨v', w3, hr, ho1, hb3, _⟩ := app_int wr w1.heap.size u7 k _ hown x (by omega) hb.size
        rw [← hsn] at ho1
        have HR := Lib.hid hr
        clear hr hsn hc hcx hc' hx hown
        go_wp2_with (at_builtin; refine wpList_append_run rfl _ _ _ _ rfl _ _ rfl rfl _ _ HR.out ?_)
        exact ⟨⟨k + 1, by go_num, by omega, ho1, hb.trans hb3⟩, by simp [intOf]; omega⟩
      · obtain rfl : k = s.size := by omega
        rw [List.take_of_length_le (by rw [decL_length]; omega)] at hown
        have hR := Reads.of_own (xs := (decL e s).map (Value.int .i64)) hown (by unfold maxLen; omega)
        clear hc
        go_wp2_with fail
        refine (ref02_Text _ _ _ _ hR (Nat.le_refl _) (by rw [decL_length]; omega)).mono ?_
        rintro e' w4 ⟨rfl, hb4⟩
        go_wp2
        go_ret2
        exact ⟨by rw [HD.out, HC.out]; rfl, hb1.trans ((hb.mono hb1.size).trans (hb4.mono (hb1.trans (hb.mono hb1.size)).size))⟩
theorem single_Table_no (e : Int) (he : isEnc e = false) (w : World) :
    Calls Tryz.prog 123 #[.int .i8 e] w fun r w' => r = .returned (.slice none 0 0) ∧ Below w.heap.size w w' := by
  have HE := Lib.hid he
  go_enter Tryz.func123, Tryz.ntmps123
  go_wp2_with (go_at_call 147; refine (single_codecs _).mono ?_; rintro e' w1 ⟨bm, b1, b2, b3, rfl, im, i1, i2, i3, hb1⟩; have hlk := look_no im e HE.out)
  go_ret
  exact ⟨rfl, hb1⟩
set_option maxRecDepth 100000 in
set_option maxHeartbeats 2000000 in
theorem single_Decode (e : Int) (s : ByteArray) (w : World) (hs : s.size ≤ 1000000) :
    Calls Tryz.prog 78 #[.int .i8 e, .string s] w fun r w' => r = .returned (.tuple #[.string (decS e s), .int .i64 (decC e)]) ∧ Below w.heap.size w w' := by
  cases he : isEnc e with
  | false =>
    have HE := Lib.hid he
    have HD := Lib.hid (show decS e s = ⟨#[]⟩ by unfold decS; rw [he]; rfl)
    have HC := Lib.hid (show decC e = 2 by unfold decC; rw [he]; rfl)
    have hnil := fun (w : World) a n c => Lib.run_eql_slice_nil (P := Tryz.prog) w 60 3 a n c 0 0 Tryz.underlying60
    go_enter Tryz.func78, Tryz.ntmps78
    go_wp2_with fail
    refine (single_Table_no _ HE.out _).mono ?_
    rintro e' w1 ⟨rfl, hb⟩
    go_wp2
    go_ret2
    exact ⟨by rw [HD.out, HC.out]; rfl, hb⟩
  | true =>
    obtain ⟨T, hT, hTl, hTa⟩ := tab_open he
    have HT := Lib.hid hT
    have HA := Lib.hid hTa
    clear hT hTa
    have HD := Lib.hid (show decS e s = textS (decL e s) by unfold decS; rw [he]; rfl)
    have HC := Lib.hid (show decC e = 0 by unfold decC; rw [he]; rfl)
    have hmk := run_make_row' (P := Tryz.prog) 60 3 (.int .i64 0) 8 Tryz.underlying60 infoInt rfl .i64 .i64 s.size (by omega) (by omega)
    have hnil := fun (w : World) a n c => Lib.run_eql_slice_nil (P := Tryz.prog) w 60 3 a n c 0 0 Tryz.underlying60
    go_enter Tryz.func78, Tryz.ntmps78
    go_wp2_with fail
    refine (single_Table _ _).mono ?_
    rw [HT.out]
    rintro e' w1 ⟨v, rfl, ho, hb1⟩
    obtain ⟨a, cap, rfl, hl, hc⟩ := (Reads.of_own ho (by unfold maxLen; omega)).open
    obtain ⟨b, off, rfl, hbB, _⟩ := hc 0 (by omega)
    clear ho
    have hmade := World.ownsRow_lit (base := w1.heap.size) (e := 3) (size := 1) w1 (madeCells #[.int .i64 0] s.size) s.size (Nat.le_refl _) (by unfold maxLen; omega) (by simp [madeCells])
    rw [toList_madeCells_one] at hmade
    have hbm := (Below.refl w1.heap.size w1).alloc (Nat.le_refl _) (.cells (madeCells #[.int .i64 0] s.size) 3)
    go_wp2_with fail
    go_loopw [20] (fun i wr => ∃ k : Nat, i = .int .i64 k ∧ k ≤ s.size ∧ wr.ownsRow w1.heap.size 3 1 (.slice (some ⟨w1.heap.size, 0, none⟩) s.size s.size) s.size ((fillD e s k).map (Value.int .i64)) ∧ Below w1.heap.size w1 wr) (fun i _ => s.size - (intOf i).toNat)
    case atStart => exact ⟨0, rfl, by omega, by rw [fillD_zero]; simpa using hmade, hbm⟩
    case round =>
      obtain ⟨k, rfl, hk, hown, hb⟩ := hrel
      by_cases hlt : k < s.size
      · obtain ⟨b', off', hbo, hbB, hcx⟩ := hc s[k].toNat (by have := byte_lt s k hlt; omega)
        simp only [Option.some.injEq, Addr.mk.injEq, and_true] at hbo
        obtain ⟨rfl, rfl⟩ := hbo
        rw [HA.out] at hcx
        have hcx1 := (hb.cell (p := ⟨b, off + s[k].toNat, none⟩) (by simpa using hbB)).trans hcx
        have hd3 := byte_lt s k hlt
        have hsn := fillD_step e s k hlt
        obtain ⟨c, hc'⟩ : ∃ c, s[k].toNat = c := ⟨_, rfl⟩
        have hidx := index_str s k hlt (c : Int) k (by rw [hc']) rfl
        rw [hc'] at hcx1 hd3 hsn
        obtain ⟨x, hx⟩ : ∃ x, encOf e (c : Int) = x := ⟨_, rfl⟩
        rw [hx] at hcx1 hsn
        have hst := hown.stored k (.int .i64 x)
        have hfz := hown.frozenAt k
        obtain ⟨u, hca⟩ : ∃ u, wr.cell? ⟨w1.heap.size, k, none⟩ = some u := by
          have hkl : k < ((fillD e s k).map (Value.int .i64)).length := by rw [List.length_map, fillD_length e s k hk]; exact hlt
          exact ⟨_, by rw [hown.cellAt k (by omega), List.getElem?_eq_getElem hkl]⟩
        rw [← List.map_set, ← hsn] at hst
        have HS := Lib.hid hst
        clear hst hsn hc hcx hc' hx hown
        go_wp2
        exact ⟨⟨k + 1, by go_num, by omega, HS.out.1, hb.grown HS.out.2 hb.size (fun j e => by cases e; exact Nat.le_refl _)⟩, by simp [intOf]; omega⟩
      · obtain rfl : k = s.size := by omega
        rw [fillD_end] at hown
        have hR := Reads.of_own (xs := (decL e s).map (Value.int .i64)) hown (by unfold maxLen; omega)
        clear hc
        go_wp2_with fail
        refine (utf8_Text _ _ _ _ hR (Nat.le_refl _) (by rw [decL_length]; omega)).mono ?_
        rintro e' w4 ⟨rfl, hb4⟩
        go_wp2
        go_ret2
        exact ⟨by rw [HD.out, HC.out]; rfl, hb1.trans ((hb.mono hb1.size).trans (hb4.mono (hb1.trans (hb.mono hb1.size)).size))⟩
end Go.Proofs.YthahfoliblgegaaGreatDoor
