/-
  A map that the call itself has made, keyed by integers: its block as a list of pairs; look-up and store as equations.
-/
import Derived.Test.YteefopeclfojiaaBase
import Derived.Maps.OwnOps
namespace Go.Proofs.Yteefopeclfojiaa
open Go.RowKit
/-- block b is a map whose entries are these pairs, in the order of their birth. -/
def IMap (W : World) (kk : IntKind) (b : Nat) (L : List (Int × Value)) : Prop :=
  ∃ es clock, W.heap[b]? = some (.map es clock) ∧ es.toList.map (fun e => (e.key, e.val)) = L.map (fun p => (Value.int kk p.1, p.2))
def aGet : List (Int × Value) → Int → Option Value
  | [], _ => none
  | p :: r, k => if p.1 == k then some p.2 else aGet r k
def aPut : List (Int × Value) → Int → Value → List (Int × Value)
  | [], k, v => [(k, v)]
  | p :: r, k, v => if p.1 == k then (p.1, v) :: r else p :: aPut r k v
theorem aGet_put (L : List (Int × Value)) (k : Int) (v : Value) (k' : Int) : aGet (aPut L k v) k' = if k' = k then some v else aGet L k' := by
  induction L with
  | nil =>
    rw [aPut, aGet, aGet]
    by_cases h : k' = k
    · subst h; simp
    · have : (k == k') = false := by simp; omega
      rw [if_neg (by rw [this]; decide), if_neg h]; rfl
  | cons p r ih =>
    rw [aPut]
    by_cases h : p.1 = k
    · have e : (p.1 == k) = true := by simp [h]
      rw [if_pos e, aGet, aGet]
      by_cases h' : k' = k
      · rw [if_pos h', if_pos (by simp [h, h'])]
      · rw [if_neg h', if_neg (by simp; omega), if_neg (by simp; omega)]
    · have e : (p.1 == k) = false := by simpa using h
      rw [if_neg (by rw [e]; decide), aGet, aGet, ih]
      by_cases h' : k' = k
      · rw [if_pos h', if_pos h', if_neg (by simp; omega)]
      · rw [if_neg h', if_neg h']
theorem findNow_int (kk : IntKind) (k : Int) : ∀ (es : List MapEntry) (L : List (Int × Value)) (i : Nat), es.map (fun e => (e.key, e.val)) = L.map (fun p => (Value.int kk p.1, p.2)) →
    (aGet L k = none ∧ Instr.findNow (.int kk) (.int kk k) es i = some none ∧ aPut L k = fun v => L ++ [(k, v)]) ∨
    (∃ v j e, aGet L k = some v ∧ Instr.findNow (.int kk) (.int kk k) es i = some (some (i + j, v)) ∧ es[j]? = some e ∧ e.key = .int kk k ∧
      ∀ u, (es.modify j fun e => { e with key := .int kk k, val := u }).map (fun e => (e.key, e.val)) = (aPut L k u).map (fun p => (Value.int kk p.1, p.2)))
  | [], L, i, h => by
    obtain rfl : L = [] := by simpa using h.symm
    exact .inl ⟨rfl, rfl, rfl⟩
  | e :: es, [], i, h => by simp at h
  | e :: es, p :: L, i, h => by
    simp only [List.map_cons, List.cons.injEq, Prod.mk.injEq] at h
    obtain ⟨⟨h1, h2⟩, h3⟩ := h
    have hs : Instr.sameNow (.int kk) (.int kk k) e.key = some (k == p.1) := by rw [h1]; simp [Instr.sameNow]
    by_cases hk : p.1 = k
    · right
      refine ⟨p.2, 0, e, by simp [aGet, hk], ?_, rfl, by rw [h1, hk], ?_⟩
      · rw [Instr.findNow, hs, hk]; simp [h2]
      · intro u
        simp only [List.modify_zero_cons, List.map_cons, h3]
        rw [aPut, if_pos (by simp [hk])]
        simp [hk]
    · have hk' : (k == p.1) = false := by simp; omega
      have hk2 : (p.1 == k) = false := by simpa using hk
      rcases findNow_int kk k es L (i + 1) h3 with ⟨g1, g2, g3⟩ | ⟨v, j, e', g1, g2, g3, g4, g5⟩
      · left
        refine ⟨by rw [aGet, if_neg (by rw [hk2]; decide)]; exact g1, by rw [Instr.findNow, hs, hk']; exact g2, ?_⟩
        funext v
        rw [aPut, if_neg (by rw [hk2]; decide), g3]; rfl
      · right
        refine ⟨v, j + 1, e', by rw [aGet, if_neg (by rw [hk2]; decide)]; exact g1, ?_, by simpa using g3, g4, ?_⟩
        · rw [Instr.findNow, hs, hk']
          rw [g2]
          simp only [Option.some.injEq, Prod.mk.injEq, and_true]
          omega
        · intro u
          simp only [List.modify_succ_cons, List.map_cons, g5 u]
          rw [aPut, if_neg (by rw [hk2]; decide), List.map_cons, h1, h2]
theorem IMap.lookup {W : World} {kk : IntKind} {b : Nat} {L : List (Int × Value)} (h : IMap W kk b L) {t kt et : TypeId} (ht : Try.prog.underlying t = some (.map kt et)) (hk : Try.prog.underlying kt = some (.int kk)) (z : Value)
    (hz : (zeroValue et).run Try.prog W = .ok z W) (k : Int) :
    (Instr.lookup t (.map (some b)) (.int kk k) true).run Try.prog W = .ok (.tuple #[(aGet L k).getD z, .bool (aGet L k).isSome]) W ∧
    (Instr.lookup t (.map (some b)) (.int kk k) false).run Try.prog W = .ok ((aGet L k).getD z) W := by
  obtain ⟨es, clock, hb, hL⟩ := h
  have hg := MapKept.run_getObj_map (P := Try.prog) hb
  have hck : ∀ em, (Instr.checkKey em 10000 kt (.int kk k)).run Try.prog W = .ok () W := fun em => MapKept.run_checkKey hk (by simp [MapKept.IsKey]) em 9999
  rcases findNow_int kk k es.toList L 0 hL with ⟨g1, g2, _⟩ | ⟨v, j, e, g1, g2, _⟩
  · have hf : (Instr.findKey kt (.int kk k) es.toList).run Try.prog W = .ok none W := by simp [Instr.findKey, run_underlying hk, g2]
    constructor <;> simp [Instr.lookup, run_underlying ht, hg, hck, hf, hz, g1, Result.andThen]
  · have hf : (Instr.findKey kt (.int kk k) es.toList).run Try.prog W = .ok (some (0 + j, v)) W := by simp only [Instr.findKey, Sem.run_bind, run_underlying hk, Result.andThen_ok, g2, Sem.run_pure]
    constructor <;> simp [Instr.lookup, run_underlying ht, hg, hck, hf, g1, Result.andThen]
open Go.ChangeMaps in
theorem IMap.update {W : World} {kk : IntKind} {b : Nat} {L : List (Int × Value)} (h : IMap W kk b L) {t kt et : TypeId} (ht : Try.prog.underlying t = some (.map kt et)) (hk : Try.prog.underlying kt = some (.int kk)) (k : Int) (v : Value) :
    ∃ w', (Instr.mapUpdate t (.map (some b)) (.int kk k) v).run Try.prog W = .ok () w' ∧ IMap w' kk b (aPut L k v) ∧ W.grownBy w' (some b) := by
  obtain ⟨es, clock, hb, hL⟩ := h
  have hg := MapKept.run_getObj_map (P := Try.prog) hb
  have hck : ∀ em, (Instr.checkKey em 10000 kt (.int kk k)).run Try.prog W = .ok () W := fun em => MapKept.run_checkKey hk (by simp [MapKept.IsKey]) em 9999
  have hgr : ∀ o : Obj, W.grownBy (setBlock W b o) (some b) := fun o => ⟨rfl, rfl, rfl, by simp [setBlock], fun i _ hi => heap_setBlock_other hb _ (fun e => hi (by rw [e]))⟩
  rcases findNow_int kk k es.toList L 0 hL with ⟨g1, g2, g3⟩ | ⟨u, j, e, g1, g2, g3, g4, g5⟩
  · have hf : (Instr.findKey kt (.int kk k) es.toList).run Try.prog W = .ok none W := by simp [Instr.findKey, run_underlying hk, g2]
    refine ⟨setBlock W b (.map (es.push { key := .int kk k, val := v, born := clock }) (clock + 1)), ?_, ⟨_, _, heap_setBlock_same hb _, ?_⟩, hgr _⟩
    · simp [Instr.mapUpdate, run_underlying ht, hg, hck, hf, MapKept.run_setObj_map _ hb, Result.andThen, setBlock]
    · rw [g3]; simp [hL]
  · have hf : (Instr.findKey kt (.int kk k) es.toList).run Try.prog W = .ok (some (0 + j, u)) W := by simp only [Instr.findKey, Sem.run_bind, run_underlying hk, Result.andThen_ok, g2, Sem.run_pure]
    have hj : es[j]? = some e := by rw [← Array.getElem?_toList]; exact g3
    refine ⟨setBlock W b (.map (es.modify j fun e => { e with key := .int kk k, val := v }) clock), ?_, ⟨_, _, heap_setBlock_same hb _, ?_⟩, hgr _⟩
    · simp [Instr.mapUpdate, run_underlying ht, hg, hck, hf, hj, g4, MapKept.run_keyThatStays (d := .int kk) (k := .int kk k) (by simp [MapKept.IsKey]), MapKept.run_setObj_map _ hb, Result.andThen, setBlock]
    · rw [Array.toList_modify]; exact g5 v
theorem IMap.kept {W W' : World} {kk : IntKind} {b : Nat} {L : List (Int × Value)} (h : IMap W kk b L) {row : Option Nat} (hg : W.grownBy W' row) (hne : some b ≠ row) : IMap W' kk b L := by
  obtain ⟨es, clock, hb, hL⟩ := h
  exact ⟨es, clock, (hg.block b (Array.getElem?_eq_some_iff.1 hb).1 hne).trans hb, hL⟩
theorem IMap.row {W W' : World} {kk : IntKind} {b : Nat} {L : List (Int × Value)} (h : IMap W kk b L) {base : Nat} {e : TypeId} {size : Nat} {v : Value} {n : Nat} {xs : List Value} (hown : W.ownsRow base e size v n xs) (hg : W.grownBy W' v.ownBlock) : IMap W' kk b L := by
  refine h.kept hg fun e' => ?_
  obtain ⟨es, clock, hb, _⟩ := h
  rcases hown.2 with ⟨rfl, _⟩ | ⟨g, cap, cur, rfl, _, hgb, _⟩
  · simp [Value.ownBlock] at e'
  · obtain rfl : b = g := by simpa [Value.ownBlock] using e'
    rw [hb] at hgb
    cases hgb
theorem IMap.lt {W : World} {kk : IntKind} {b : Nat} {L : List (Int × Value)} (h : IMap W kk b L) : b < W.heap.size := by
  obtain ⟨es, clock, hb, _⟩ := h
  exact (Array.getElem?_eq_some_iff.1 hb).1
theorem IMap.below {W W' : World} {kk : IntKind} {b : Nat} {L : List (Int × Value)} (h : IMap W kk b L) {B : Nat} (hb : Below B W W') (hB : W.heap.size ≤ B) : IMap W' kk b L := by
  obtain ⟨es, clock, he, hL⟩ := h
  exact ⟨es, clock, (hb.block b (Nat.lt_of_lt_of_le (Array.getElem?_eq_some_iff.1 he).1 hB)).trans he, hL⟩
theorem IMap.made (W : World) (kk : IntKind) : IMap (W.alloc (.map #[] 0)) kk W.heap.size [] := ⟨#[], 0, heap_alloc_new W _, rfl⟩
theorem IMap.alloc {W : World} {kk : IntKind} {b : Nat} {L : List (Int × Value)} (h : IMap W kk b L) (o : Obj) : IMap (W.alloc o) kk b L := h.kept (World.grownBy_alloc W o none) (by simp)
end Go.Proofs.Yteefopeclfojiaa
