/-
  A strings.Builder of the call's own, within a loop over an iterator: what a write leaves as it was.
-/
import Derived.Test.YtkdkoondchbekaaBd
import Derived.Test.YtkdkoondchbekaaU8F
import Derived.RangeFuncBox
namespace Go.Proofs.Ytkdkoondchbekaa
open Go.RowKit Go.Shelf Go.Lib
/-- but for the builder's block and what lies above, all is as it was; the loops' records, too. -/
structure Kept (W W' : World) (b base : Nat) : Prop where
  others : KeepsOthers W W'
  low : ∀ k, k < base → k ≠ b → W'.heap[k]? = W.heap[k]?
  bel : Below b W W'
  typ : ∀ (k : Nat) (cs : Array Value) (T : TypeId) (m : Nat × Nat), T ≠ 5 → k ≠ b → W.heap[k]? = some (.cells cs T m) → W'.heap[k]? = some (.cells cs T m)
theorem Kept.trans {A B C : World} {b base : Nat} (h : Kept A B b base) (k : Kept B C b base) : Kept A C b base :=
  ⟨h.others.trans k.others, fun i h1 h2 => (k.low i h1 h2).trans (h.low i h1 h2), h.bel.trans k.bel, fun i cs T m h1 h2 h3 => k.typ i cs T m h1 h2 (h.typ i cs T m h1 h2 h3)⟩
theorem Kept.of_below {A B : World} {b base : Nat} (h : Below A.heap.size A B) (hb : base ≤ A.heap.size) (hlt : b < base) : Kept A B b base :=
  ⟨keepsOthers_of_below h, fun k hk _ => h.block k (by omega), h.mono (by omega), fun k _ _ _ _ _ hk => (h.block k (Array.getElem?_eq_some_iff.1 hk).1).trans hk⟩
theorem Kept.boxed {A B : World} {b base : Nat} (h : Kept A B b base) {k : Nat} {t : TypeId} {v : Value} (hb : Boxed A k t v) (h1 : k < base) (h2 : k ≠ b) : Boxed B k t v := (h.low k h1 h2).trans hb
theorem BdAt.low {A B : World} {b base : Nat} {v : Value} {xs : List Int} (h : BdAt A b base v xs) (hb : Below A.heap.size A B) : BdAt B b base v xs := by
  obtain ⟨p, hp, hk⟩ := h.blk
  have hlt : b < A.heap.size := (Array.getElem?_eq_some_iff.1 hk).1
  exact ⟨⟨p, hp, (hb.block b hlt).trans hk⟩, own_below h.own hb (Nat.le_refl _), h.lt⟩
theorem kept_grown {W W' : World} {b base : Nat} {v : Value} {n : Nat} {xs : List Value} (hrow : W.ownsRow base 5 1 v n xs) (hg : W.grownBy W' v.ownBlock) (hb : base ≤ W.heap.size) (hlt : b < base) : Kept W W' b base :=
  ⟨keepsOthers_of_row hrow hg, fun k hk _ => hg.block k (by omega) (fun e => by have := (hrow.lt k e.symm).1; omega), (ownBelow hrow hg (Nat.le_refl _) hb).mono (by omega), fun k _ _ _ h1 _ hk => (hg.block k (Array.getElem?_eq_some_iff.1 hk).1 (fun e => by
    rcases hrow.2 with ⟨rfl, _⟩ | ⟨g, cap, cur, rfl, _, hgb, _⟩
    · cases e
    · injection e with e
      subst e
      rw [hk] at hgb
      injection hgb with hgb
      injection hgb with _ e2 _
      exact h1 e2)).trans hk⟩
theorem kept_set {W : World} {b base : Nat} (i : Nat) (v : Value) (_hlt : b < base) : Kept W (W.setCell ⟨b, i, none⟩ v) b base :=
  ⟨KeepsOthers.setCell _ _ _, fun k _ hne => Below.heap_setCell W ⟨b, i, none⟩ v k (fun e => hne e), (Below.refl b W).setCell (p := ⟨b, i, none⟩) (Nat.le_refl _) v, fun k _ _ _ _ h2 hk => (Below.heap_setCell W ⟨b, i, none⟩ v k (fun e => h2 e)).trans hk⟩
theorem bd_checkK (b base : Nat) (p v : Value) (hp : p = .pointer none ∨ p = .pointer (some ⟨b, 0, none⟩)) (hlt : b < base) (w : World) (hb : w.heap[b]? = some (.cells #[p, v] 46 (0, 0))) :
    Calls Try.prog 45 #[.pointer (some ⟨b, 0, none⟩)] w fun e w' => e = .returned (.tuple #[]) ∧ w'.heap[b]? = some (.cells #[.pointer (some ⟨b, 0, none⟩), v] 46 (0, 0)) ∧ w.grownBy w' (some b) ∧ Kept w w' b base := by
  rcases hp with rfl | rfl
  · refine (bd_fresh b v w hb).mono ?_
    rintro e w' ⟨rfl, rfl⟩
    refine ⟨rfl, ?_, ⟨rfl, rfl, rfl, by simp [World.setCell], fun k _ hne => Below.heap_setCell w ⟨b, 0, none⟩ _ k (fun e => hne (by rw [e]))⟩, kept_set 0 _ hlt⟩
    rw [heap_setCell_same w b 0 _ _ _ hb]
    rfl
  · refine (bd_used b v w hb).mono ?_
    rintro e w' ⟨rfl, rfl⟩
    exact ⟨rfl, hb, World.grownBy.refl _ _, ⟨KeepsOthers.refl _, fun _ _ _ => rfl, Below.refl _ _, fun _ _ _ _ _ _ h => h⟩⟩
/-- a builder that holds the bytes xs; with none it is as new. -/
def BdZ (w : World) (b base : Nat) (xs : List Int) : Prop := ∃ v, BdAt w b base v xs ∧ (xs = [] → v = .slice none 0 0)
/-- the builder's state is the caller's own. -/
theorem bd_own {β : Type} (b base : Nat) (f : β → List Int) : Own (fun s W => BdZ W b base (f s)) := by
  rintro s X Y row ⟨v, h, hz⟩ hg hrow
  obtain ⟨p, hp, hk⟩ := h.blk
  have hltX : b < X.heap.size := (Array.getElem?_eq_some_iff.1 hk).1
  have hne : ∀ k, (∃ o : Obj, X.heap[k]? = some o ∧ o.isCells = true) → row ≠ some k := by
    rintro k ⟨o, ho, hc⟩ e
    obtain ⟨o', ho', hc'⟩ := hrow k e
    rw [ho] at ho'
    cases ho'
    rw [hc] at hc'
    cases hc'
  refine ⟨v, ⟨⟨p, hp, (hg.block b hltX (fun e => hne b ⟨_, hk, rfl⟩ e.symm)).trans hk⟩, h.own.kept hg ?_, h.lt⟩, hz⟩
  rcases h.own.2 with ⟨hv, _⟩ | ⟨g, cap, cur, hv, _, hgb, _⟩
  · rw [hv]; exact .inl rfl
  · rw [hv]
    exact .inr (fun e => hne g ⟨_, hgb, rfl⟩ e.symm)
theorem BdAt.new0 (W : World) (b base : Nat) (hb : W.heap[b]? = some (.cells #[.pointer none, .slice none 0 0] 46 (0, 0))) (hlt : b < base) : BdZ W b base [] :=
  ⟨_, ⟨⟨_, .inl rfl, hb⟩, World.ownsRow_nil _ _ _ _, hlt⟩, fun _ => rfl⟩
theorem BdZ.low {A B : World} {b base : Nat} {xs : List Int} (h : BdZ A b base xs) (hb : Below A.heap.size A B) : BdZ B b base xs := by
  obtain ⟨v, h, hz⟩ := h
  exact ⟨v, h.low hb, hz⟩
theorem app_str_z (wr : World) (base : Nat) (v : Value) (n : Nat) (xs : List Int) (hown : wr.ownsRow base 5 1 v n (xs.map (Value.int .u8))) (s : ByteArray) (hn : n + s.size < 1099511627776) (hbase : base ≤ wr.heap.size) :
    ∃ v' w', (Builtin.append_ #[37, 9] 37 #[v, .string s]).run Try.prog wr = .ok v' w' ∧
      w'.ownsRow base 5 1 v' (n + s.size) ((xs ++ s.data.toList.map fun c => (c.toNat : Int)).map (Value.int .u8)) ∧ wr.grownBy w' v.ownBlock ∧ (v = .slice none 0 0 → s.size = 0 → v' = .slice none 0 0) := by
  obtain ⟨i0, hi, hz0, hz1, hz2⟩ := info_parts infoU8
  obtain ⟨v', w', h1, h2, h3, h4⟩ := run_append_own_string (P := Try.prog) wr base 37 9 37 5 i0 Try.underlying37 Try.underlying9 hi hz0 hz1 hz2 v n _ hown s (by unfold maxLen; omega) (by omega) hbase
  exact ⟨v', w', h1, by rw [List.map_append, ← strCells_nums]; exact h2, h3, fun a b => h4.2 ⟨a, b⟩⟩
set_option maxRecDepth 100000 in
theorem bd_writeK (b base : Nat) (xs : List Int) (s : ByteArray) (w : World) (h : BdZ w b base xs) (hn : xs.length + s.size < 1099511627776) (hbase : base ≤ w.heap.size) :
    Calls Try.prog 25 #[.pointer (some ⟨b, 0, none⟩), .string s] w fun e w' => e = .returned (.tuple #[.int .i64 s.size, .nilIface]) ∧ BdZ w' b base (xs ++ nums s) ∧ Kept w w' b base := by
  obtain ⟨v, h, hz⟩ := h
  obtain ⟨p, hp, hb⟩ := h.blk
  have hlt := h.lt
  go_enter Try.func25, Try.ntmps25
  go_wp2_with fail
  refine (bd_checkK b base p v hp hlt w hb).mono ?_
  rintro e w1 ⟨rfl, hb1, hg1, hk1⟩
  have hown := far_own h.own hlt hg1
  have hs1 : base ≤ w1.heap.size := Nat.le_trans hbase hg1.size
  obtain ⟨v', w2, h1, h2, h3, h5⟩ := app_str_z w1 base v xs.length xs hown s hn hs1
  have hk2 := kept_grown (b := b) hown h3 hs1 hlt
  obtain ⟨va, vl, vc, rfl⟩ := own_slice hown
  obtain ⟨va', vl', vc', rfl⟩ := own_slice h2
  have hb2 := (hk2.bel.mono (Nat.le_refl _)).size
  have hb2 : w2.heap[b]? = some (.cells #[.pointer (some ⟨b, 0, none⟩), .slice va vl vc] 46 (0, 0)) := (h3.block b (by omega) (fun e => by have := (hown.lt b e.symm).1; omega)).trans hb1
  have hc1 : w1.cell? ⟨b, 1, none⟩ = some (.slice va vl vc) := by rw [cell_of_row w1 b 1 _ _ _ hb1]; rfl
  have hc2 : w2.cell? ⟨b, 1, none⟩ = some (.slice va vl vc) := by rw [cell_of_row w2 b 1 _ _ _ hb2]; rfl
  have hf2 : w2.frozen? ⟨b, 1, none⟩ = false := by simp [World.frozen?, hb2]
  have hb3 := heap_setCell_same w2 b 1 _ _ (.slice va' vl' vc') hb2
  have hgr : w2.grownBy (w2.setCell ⟨b, 1, none⟩ (.slice va' vl' vc')) (some b) := ⟨rfl, rfl, rfl, by simp [World.setCell], fun k _ hne => Below.heap_setCell w2 ⟨b, 1, none⟩ _ k (fun e => hne (by rw [e]))⟩
  have hown3 := far_own h2 hlt hgr
  have HA := Lib.hid h1
  have OUT : BdZ (w2.setCell ⟨b, 1, none⟩ (.slice va' vl' vc')) b base (xs ++ nums s) ∧ Kept w (w2.setCell ⟨b, 1, none⟩ (.slice va' vl' vc')) b base := by
    refine ⟨⟨_, ⟨⟨_, .inr rfl, hb3⟩, ?_, hlt⟩, fun e => ?_⟩, (hk1.trans hk2).trans (kept_set 1 _ hlt)⟩
    · rw [List.length_append, nums_length, List.map_append]
      rw [← List.map_append]
      exact hown3
    · rw [List.append_eq_nil_iff] at e
      exact h5 (hz e.1) (by rw [← nums_length, e.2]; rfl)
  have HO := Lib.hid OUT
  clear h1 h2 h3 h5 hz hk1 hk2 hown hown3 hgr OUT h hb hb1 hb2 hb3
  go_wp2_with (at_builtin; refine wpList_append_run rfl _ _ _ _ rfl _ _ rfl rfl _ _ HA.out ?_)
  go_ret2
  exact ⟨rfl, HO.out⟩
theorem app_u8_g (wr : World) (base : Nat) (v : Value) (n : Nat) (xs : List Int) (hown : wr.ownsRow base 5 1 v n (xs.map (Value.int .u8))) (x : Int) (hn : n < 1099511627776) (hbase : base ≤ wr.heap.size) :
    ∃ v' w', (Builtin.append_ #[37, 37] 37 #[v, .slice (some ⟨wr.heap.size, 0, none⟩) 1 1]).run Try.prog (wr.alloc (.cells #[.int .u8 x] 5)) = .ok v' w' ∧
      w'.ownsRow base 5 1 v' (n + 1) ((xs ++ [x]).map (Value.int .u8)) ∧ (wr.alloc (.cells #[.int .u8 x] 5)).grownBy w' v.ownBlock := by
  obtain ⟨i0, hi, hz0, hz1, hz2⟩ := info_parts infoU8
  obtain ⟨v', w', h1, h2, h3, h4⟩ := run_append_own (P := Try.prog) (wr.alloc (.cells #[.int .u8 x] 5)) base 37 37 5 i0 (.int .u8 0) 1 1 Try.underlying37 hi hz0 hz1 hz2 rfl (by decide) v n _ (hown.alloc _) ⟨wr.heap.size, 0, none⟩ 1 1 [.int .u8 x] rfl
    (fun j u hj => by match j, hj with | 0, hj => simp at hj; subst hj; simp [Addr.add, World.cell?_alloc_mark]) (fun u hu => by simp at hu; subst hu; rfl) (by unfold maxLen; omega) (by omega) (by simp; omega)
  exact ⟨v', w', h1, by simpa using h2, h3⟩
set_option maxRecDepth 100000 in
theorem bd_byteK (b base : Nat) (xs : List Int) (c : Int) (w : World) (h : BdZ w b base xs) (hn : xs.length < 1099511627776) (hbase : base ≤ w.heap.size) :
    Calls Try.prog 33 #[.pointer (some ⟨b, 0, none⟩), .int .u8 c] w fun e w' => e = .returned .nilIface ∧ BdZ w' b base (xs ++ [c]) ∧ Kept w w' b base := by
  obtain ⟨v, h, hz⟩ := h
  clear hz
  obtain ⟨p, hp, hb⟩ := h.blk
  have hlt := h.lt
  go_enter Try.func33, Try.ntmps33
  go_wp2_with fail
  refine (bd_checkK b base p v hp hlt w hb).mono ?_
  rintro e w1 ⟨rfl, hb1, hg1, hk1⟩
  have hown := far_own h.own hlt hg1
  have hs1 : base ≤ w1.heap.size := Nat.le_trans hbase hg1.size
  obtain ⟨v', w2, h1, h2, h3⟩ := app_u8_g w1 base v xs.length xs hown c hn hs1
  have hka : Kept w1 (w1.alloc (.cells #[.int .u8 c] 5)) b base := Kept.of_below ((Below.refl _ w1).alloc (Nat.le_refl _) _) hs1 hlt
  have hk2 := kept_grown (b := b) (hown.alloc _) h3 (by simp; omega) hlt
  obtain ⟨va, vl, vc, rfl⟩ := own_slice hown
  obtain ⟨va', vl', vc', rfl⟩ := own_slice h2
  have hb2 : w2.heap[b]? = some (.cells #[.pointer (some ⟨b, 0, none⟩), .slice va vl vc] 46 (0, 0)) := by
    have e1 : (w1.alloc (.cells #[.int .u8 c] 5)).heap[b]? = w1.heap[b]? := Below.heap_alloc _ _ _ (by omega)
    exact (h3.block b (by simp; omega) (fun e => by have := (hown.lt b e.symm).1; omega)).trans (e1.trans hb1)
  have hc1 : w1.cell? ⟨b, 1, none⟩ = some (.slice va vl vc) := by rw [cell_of_row w1 b 1 _ _ _ hb1]; rfl
  have hc2 : w2.cell? ⟨b, 1, none⟩ = some (.slice va vl vc) := by rw [cell_of_row w2 b 1 _ _ _ hb2]; rfl
  have hf2 : w2.frozen? ⟨b, 1, none⟩ = false := by simp [World.frozen?, hb2]
  have hb3 := heap_setCell_same w2 b 1 _ _ (.slice va' vl' vc') hb2
  have hgr : w2.grownBy (w2.setCell ⟨b, 1, none⟩ (.slice va' vl' vc')) (some b) := ⟨rfl, rfl, rfl, by simp [World.setCell], fun k _ hne => Below.heap_setCell w2 ⟨b, 1, none⟩ _ k (fun e => hne (by rw [e]))⟩
  have hown3 := far_own h2 hlt hgr
  have HA := Lib.hid h1
  have OUT : BdZ (w2.setCell ⟨b, 1, none⟩ (.slice va' vl' vc')) b base (xs ++ [c]) ∧ Kept w (w2.setCell ⟨b, 1, none⟩ (.slice va' vl' vc')) b base := by
    refine ⟨⟨_, ⟨⟨_, .inr rfl, hb3⟩, ?_, hlt⟩, fun e => by simp at e⟩, ((hk1.trans hka).trans hk2).trans (kept_set 1 _ hlt)⟩
    rw [List.length_append]
    exact hown3
  have HO := Lib.hid OUT
  clear h1 h2 h3 hk1 hk2 hka hown hown3 hgr OUT h hb hb1 hb2 hb3
  go_wp2_with (at_builtin; refine wpList_append_run rfl _ _ _ _ rfl _ _ rfl rfl _ _ HA.out ?_)
  go_ret
  exact ⟨rfl, HO.out⟩
/-- String, whatever was written. -/
theorem bd_stringG (b base : Nat) (xs : List Int) (w : World) (h : BdZ w b base xs) (hbs : isBs xs) :
    Calls Try.prog 28 #[.pointer (some ⟨b, 0, none⟩)] w fun e w' => e = .returned (.string (strOfNums xs)) ∧ Below b w w' ∧ Others w w' b ∧ KeepsOthers w w' ∧ (base ≤ w.heap.size → Kept w w' b base) := by
  obtain ⟨v, h, hz⟩ := h
  have hk : ∀ w', w.grownBy w' v.ownBlock → base ≤ w.heap.size → Kept w w' b base := fun w' hg hbase => kept_grown h.own hg hbase h.lt
  by_cases h0 : xs = []
  · subst h0
    obtain rfl := hz rfl
    refine (bd_string_nil b base w h).mono ?_
    rintro e w' ⟨rfl, h1, h2, h3, h4⟩
    exact ⟨rfl, h1, h2, h3, hk w' h4⟩
  · refine (bd_string b base v xs w h hbs h0).mono ?_
    rintro e w' ⟨rfl, h1, h2, h3, h4⟩
    exact ⟨rfl, h1, h2, h3, hk w' h4⟩
theorem bd_stringK (b base : Nat) (xs : List Int) (w : World) (h : BdZ w b base xs) (hbs : isBs xs) :
    Calls Try.prog 28 #[.pointer (some ⟨b, 0, none⟩)] w fun e w' => e = .returned (.string (strOfNums xs)) ∧ Below b w w' ∧ Others w w' b ∧ KeepsOthers w w' := by
  refine (bd_stringG b base xs w h hbs).mono ?_
  rintro e w' ⟨rfl, h1, h2, h3, _⟩
  exact ⟨rfl, h1, h2, h3⟩
end Go.Proofs.Ytkdkoondchbekaa
