/-
  A map that the call itself has made, keyed by names (structs of two texts): its block as a list of pairs; look-up and store as equations.
-/
import Derived.Test.YteefopeclfojiaaIm
import Derived.Laws.StructEq
namespace Go.Proofs.Yteefopeclfojiaa
open Go.RowKit
/-- a name as a value. -/
def nmV (k : ByteArray × ByteArray) : Value := .agg #[.string k.1, .string k.2]
theorem equal_name (W : World) (j k : ByteArray × ByteArray) : (Op.equal 24 (nmV j) (nmV k)).run Try.prog W = .ok (decide (j = k)) W := by
  unfold nmV
  show (Op.equalIn (9999 + 1) 24 _ _).run Try.prog W = _
  go_simp
  have ext : ∀ x y : ByteArray, x.toList = y.toList ↔ x = y := fun x y => ⟨fun h => by
    rw [ByteArray.toList_eq, ByteArray.toList_eq] at h
    exact ByteArray.ext (Array.toList_inj.1 h), fun h => by rw [h]⟩
  simp only [ext]
  by_cases h1 : j.1 = k.1
  · rw [if_pos h1]
    by_cases h2 : j.2 = k.2
    · rw [if_pos h2, decide_eq_true (Prod.ext h1 h2)]
    · rw [if_neg h2, decide_eq_false (fun e => h2 (by rw [e]))]
  · rw [if_neg h1, decide_eq_false (fun e => h1 (by rw [e]))]
theorem check_str (W : World) (em : Bool) (n : Nat) (s : ByteArray) : (Instr.checkKey em (n + 1) 9 (.string s)).run Try.prog W = .ok () W := by
  rw [Instr.checkKey]
  simp only [Sem.run_bind, run_underlying Try.underlying9, Result.andThen, Sem.run_pure]
theorem check_name (W : World) (em : Bool) (n : Nat) (k : ByteArray × ByteArray) : (Instr.checkKey em (n + 1 + 1) 24 (nmV k)).run Try.prog W = .ok () W := by
  unfold nmV
  rw [Instr.checkKey]
  simp only [Sem.run_bind, run_underlying Try.underlying24, Result.andThen]
  simp [go_sem]
  rw [check_str]
  simp only [Result.andThen]
  rw [check_str]
/-- block b is a map whose entries are these pairs, in the order of their birth. -/
def NMap (W : World) (b : Nat) (L : List ((ByteArray × ByteArray) × Value)) : Prop :=
  ∃ es clock, W.heap[b]? = some (.map es clock) ∧ es.toList.map (fun e => (e.key, e.val)) = L.map (fun p => (nmV p.1, p.2))
def nGet : List ((ByteArray × ByteArray) × Value) → ByteArray × ByteArray → Option Value
  | [], _ => none
  | p :: r, k => if k = p.1 then some p.2 else nGet r k
theorem find_asking (W : World) (k : ByteArray × ByteArray) : ∀ (es : List MapEntry) (L : List ((ByteArray × ByteArray) × Value)) (i : Nat), es.map (fun e => (e.key, e.val)) = L.map (fun p => (nmV p.1, p.2)) →
    (nGet L k = none ∧ (Instr.findAsking 24 (nmV k) es i).run Try.prog W = .ok none W) ∨
    (∃ v j, nGet L k = some v ∧ (Instr.findAsking 24 (nmV k) es i).run Try.prog W = .ok (some (i + j, v)) W)
  | [], L, i, h => by
    obtain rfl : L = [] := by simpa using h.symm
    exact .inl ⟨rfl, rfl⟩
  | e :: es, [], i, h => by simp at h
  | e :: es, p :: L, i, h => by
    simp only [List.map_cons, List.cons.injEq, Prod.mk.injEq] at h
    obtain ⟨⟨h1, h2⟩, h3⟩ := h
    have hq := equal_name W k p.1
    rw [← h1] at hq
    by_cases hk : k = p.1
    · right
      refine ⟨p.2, 0, by rw [nGet, if_pos hk], ?_⟩
      rw [Instr.findAsking]
      simp only [Sem.run_bind, hq, Result.andThen, decide_eq_true hk, if_true, Sem.run_pure, Nat.add_zero, h2]
    · rcases find_asking W k es L (i + 1) h3 with ⟨g1, g2⟩ | ⟨v, j, g1, g2⟩
      · left
        refine ⟨by rw [nGet, if_neg hk]; exact g1, ?_⟩
        rw [Instr.findAsking]
        simp only [Sem.run_bind, hq, Result.andThen, decide_eq_false hk]
        exact g2
      · right
        refine ⟨v, j + 1, by rw [nGet, if_neg hk]; exact g1, ?_⟩
        rw [Instr.findAsking]
        simp only [Sem.run_bind, hq, Result.andThen, decide_eq_false hk]
        rw [show i + (j + 1) = i + 1 + j by omega]
        exact g2
theorem find_key (W : World) (k : ByteArray × ByteArray) (es : List MapEntry) (L : List ((ByteArray × ByteArray) × Value)) (h : es.map (fun e => (e.key, e.val)) = L.map (fun p => (nmV p.1, p.2))) :
    (nGet L k = none ∧ (Instr.findKey 24 (nmV k) es).run Try.prog W = .ok none W) ∨
    (∃ v j, nGet L k = some v ∧ (Instr.findKey 24 (nmV k) es).run Try.prog W = .ok (some (j, v)) W) := by
  cases es with
  | nil =>
    obtain rfl : L = [] := by simpa using h.symm
    refine .inl ⟨rfl, ?_⟩
    simp [Instr.findKey, run_underlying Try.underlying24, Instr.findNow, Result.andThen]
  | cons e es =>
    have hn : ∀ d, Instr.findNow (.struct d) (nmV k) (e :: es) 0 = none := fun d => by
      unfold Instr.findNow nmV
      rfl
    have hf : (Instr.findKey 24 (nmV k) (e :: es)).run Try.prog W = (Instr.findAsking 24 (nmV k) (e :: es) 0).run Try.prog W := by
      unfold Instr.findKey
      simp only [Sem.run_bind, run_underlying Try.underlying24, Result.andThen, hn]
    rw [hf]
    rcases find_asking W k (e :: es) L 0 h with ⟨g1, g2⟩ | ⟨v, j, g1, g2⟩
    · exact .inl ⟨g1, g2⟩
    · exact .inr ⟨v, 0 + j, g1, g2⟩
theorem NMap.lookup {W : World} {b : Nat} {L : List ((ByteArray × ByteArray) × Value)} (h : NMap W b L) {t et : TypeId} (ht : Try.prog.underlying t = some (.map 24 et)) (z : Value)
    (hz : (zeroValue et).run Try.prog W = .ok z W) (k : ByteArray × ByteArray) :
    (Instr.lookup t (.map (some b)) (nmV k) false).run Try.prog W = .ok ((nGet L k).getD z) W := by
  obtain ⟨es, clock, hb, hL⟩ := h
  have hg := MapKept.run_getObj_map (P := Try.prog) hb
  have hck : ∀ em, (Instr.checkKey em 10000 24 (nmV k)).run Try.prog W = .ok () W := fun em => check_name W em 9998 k
  rcases find_key W k es.toList L hL with ⟨g1, g2⟩ | ⟨v, j, g1, g2⟩
  · simp [Instr.lookup, run_underlying ht, hg, hck, g2, hz, g1, Result.andThen]
  · simp [Instr.lookup, run_underlying ht, hg, hck, g2, g1, Result.andThen]
open Go.ChangeMaps in
theorem NMap.push {W : World} {b : Nat} {L : List ((ByteArray × ByteArray) × Value)} (h : NMap W b L) {t et : TypeId} (ht : Try.prog.underlying t = some (.map 24 et)) (k : ByteArray × ByteArray) (v : Value) (hn : nGet L k = none) :
    ∃ w', (Instr.mapUpdate t (.map (some b)) (nmV k) v).run Try.prog W = .ok () w' ∧ NMap w' b (L ++ [(k, v)]) ∧ W.grownBy w' (some b) := by
  obtain ⟨es, clock, hb, hL⟩ := h
  have hg := MapKept.run_getObj_map (P := Try.prog) hb
  have hck : ∀ em, (Instr.checkKey em 10000 24 (nmV k)).run Try.prog W = .ok () W := fun em => check_name W em 9998 k
  have hgr : ∀ o : Obj, W.grownBy (setBlock W b o) (some b) := fun o => ⟨rfl, rfl, rfl, by simp [setBlock], fun i _ hi => heap_setBlock_other hb _ (fun e => hi (by rw [e]))⟩
  rcases find_key W k es.toList L hL with ⟨g1, g2⟩ | ⟨u, j, g1, g2⟩
  · refine ⟨setBlock W b (.map (es.push { key := nmV k, val := v, born := clock }) (clock + 1)), ?_, ⟨_, _, heap_setBlock_same hb _, ?_⟩, hgr _⟩
    · simp [Instr.mapUpdate, run_underlying ht, hg, hck, g2, MapKept.run_setObj_map _ hb, Result.andThen, setBlock]
    · simp [hL]
  · rw [hn] at g1; cases g1
theorem NMap.kept {W W' : World} {b : Nat} {L : List ((ByteArray × ByteArray) × Value)} (h : NMap W b L) {row : Option Nat} (hg : W.grownBy W' row) (hne : some b ≠ row) : NMap W' b L := by
  obtain ⟨es, clock, hb, hL⟩ := h
  exact ⟨es, clock, (hg.block b (Array.getElem?_eq_some_iff.1 hb).1 hne).trans hb, hL⟩
theorem NMap.lt {W : World} {b : Nat} {L : List ((ByteArray × ByteArray) × Value)} (h : NMap W b L) : b < W.heap.size := by
  obtain ⟨es, clock, hb, _⟩ := h
  exact (Array.getElem?_eq_some_iff.1 hb).1
theorem NMap.below {W W' : World} {b : Nat} {L : List ((ByteArray × ByteArray) × Value)} (h : NMap W b L) {B : Nat} (hb : Below B W W') (hB : W.heap.size ≤ B) : NMap W' b L := by
  obtain ⟨es, clock, he, hL⟩ := h
  exact ⟨es, clock, (hb.block b (Nat.lt_of_lt_of_le (Array.getElem?_eq_some_iff.1 he).1 hB)).trans he, hL⟩
theorem NMap.made (W : World) : NMap (W.alloc (.map #[] 0)) W.heap.size [] := ⟨#[], 0, heap_alloc_new W _, rfl⟩
theorem NMap.alloc {W : World} {b : Nat} {L : List ((ByteArray × ByteArray) × Value)} (h : NMap W b L) (o : Obj) : NMap (W.alloc o) b L := h.kept (World.grownBy_alloc W o none) (by simp)
end Go.Proofs.Yteefopeclfojiaa
